/- The least costs of a chain's parts, as plain numbers. A chain's machine, and that what the writer writes is legal, within the cap, at the least cost. Chains of one word and one cost: bounds of the least costs. The walk of (*solver).best. No condition. -/
import Derived.Test.YtnpdcjdmbkcpbaaGreatXb
set_option linter.unusedVariables false
set_option linter.unusedSimpArgs false
namespace Go.Proofs.YtnpdcjdmbkcpbaaGreat.Ins
def vf (C:Par):Nat→Nat→Nat→List Nat
  | 0,_,_=>[]
  | d + 1,l,r=>if r=l + 1 then one C l r else (mny { C with V:=vf C d } l r (r - l - 1)).2.2
def Par.full (C:Par):Par:={ C with V:=fun l r=>vf C (r - l) l r }
theorem mny_congr (C:Par) (V1 V2:Nat→Nat→List Nat) (l r j:Nat) (h:∀ i,i < j→V1 (l + 1 + i) r=V2 (l + 1 + i) r∧V1 l (l + 1 + i)=V2 l (l + 1 + i)):mny { C with V:=V1 } l r j=mny { C with V:=V2 } l r j:=by
  induction j with
  | zero=>rfl
  | succ j ih=>
    have h1:=ih (fun i hi=>h i (by omega))
    obtain ⟨h2,h3⟩:=h j (by omega)
    simp only [mny]
    rw [h1,h2,h3]
theorem vf_fuel (C:Par):∀ d l r,l < r→r - l≤d→vf C d l r=vf C (r - l) l r:=by
  intro d
  induction d using Nat.strongRecOn with
  | _ d ih=>
    intro l r hl hd
    obtain ⟨e,he⟩:∃ e,r - l=e + 1:=⟨r - l - 1,by omega⟩
    obtain ⟨d',rfl⟩:∃ d',d=d' + 1:=⟨d - 1,by omega⟩
    rw [he]
    by_cases hq:d'=e
    · rw [hq]
    simp only [vf]
    split
    · rfl
    · have:=mny_congr C (vf C d') (vf C e) l r (r - l - 1) (fun i hi=>⟨?_,?_⟩)
      · rw [this]
      · rw [ih d' (by omega) _ _ (by omega) (by omega),ih e (by omega) _ _ (by omega) (by omega)]
      · rw [ih d' (by omega) _ _ (by omega) (by omega),ih e (by omega) _ _ (by omega) (by omega)]
theorem rec_full (C:Par):Rec C.full:=by
  intro l r hl hr
  show vf C (r - l) l r=_
  obtain ⟨e,he⟩:∃ e,r - l=e + 1:=⟨r - l - 1,by omega⟩
  rw [he]
  simp only [vf]
  split
  · rfl
  · have:=mny_congr C (vf C e) (fun l r=>vf C (r - l) l r) l r (r - l - 1) (fun i hi=>⟨vf_fuel C e _ _ (by omega) (by omega),vf_fuel C e _ _ (by omega) (by omega)⟩)
    rw [this,show e + 1 - 1=r - l - 1 by omega];rfl
theorem one_le (C:Par) (l r i:Nat) (h:own C.cs r≤nn):(one C l r).getD i 0≤nn:=by
  unfold one
  rw [List.getD_eq_getElem?_getD,List.getElem?_map]
  rcases Nat.lt_or_ge i (C.cap + 1 - kp C.ws l) with hi | hi
  · rw [List.getElem?_range hi];simp only [Option.map_some,Option.getD_some];split <;> omega
  · rw [List.getElem?_eq_none (by simpa using hi)];simp
theorem own_le (cs:List Nat) (r b:Nat) (h:∀ i,i < cs.length→cs.getD i 0≤b):own cs r≤b:=by
  unfold own
  split
  · rcases Nat.lt_or_ge (r - 1) cs.length with h2 | h2
    · exact h _ h2
    · rw [List.getD_eq_getElem?_getD,List.getElem?_eq_none h2];exact Nat.zero_le _
  · exact Nat.zero_le _
structure Fine (ws cs:List Nat) (cap:Nat):Prop where
  n1:ws.length=cs.length + 1
  n2:1≤cs.length∧cs.length≤64
  wb:∀ i,i < ws.length→1≤ws.getD i 0∧ws.getD i 0≤65536
  cb:∀ i,i < cs.length→cs.getD i 0≤1099511627776
  cap:cap≤10000000
theorem good_full (C:Par) (h:Fine C.ws C.cs C.cap):Good C.full:=by
  have hR:=rec_full C
  refine ⟨h.n1,h.n2,h.wb,h.cb,h.cap,?_,?_⟩
  · intro l r hl hr
    rw [hR l r hl hr]
    split
    · simp [one]
    · exact mny_length _ _ _ _
  · intro l r i
    show (vf C (r - l) l r).getD i 0≤nn
    cases he:r - l with
    | zero=>simp [vf]
    | succ e=>
      simp only [vf]
      split
      · exact one_le _ _ _ _ (Nat.le_trans (own_le _ _ _ h.cb) (by unfold nn;omega))
      · exact mny_le _ _ _ _ _
def cst (cs:List Nat) (l:Nat):Nat→Nat
  | 0=>0
  | j + 1=>cst cs l j + cs.getD (l + j) 0
theorem cst_add (cs:List Nat) (l i j:Nat):cst cs l (i + j)=cst cs l i + cst cs (l + i) j:=by
  induction j with
  | zero=>rfl
  | succ j ih=>rw [← Nat.add_assoc,cst,cst,ih,Nat.add_assoc l i j];omega
section
variable {C:Par}
theorem mny_cst (C:Par) (l r j:Nat):(mny C l r j).2.1=cst C.cs l j:=by
  induction j with
  | zero=>rfl
  | succ j ih=>simp only [mny,cst,ih]
def ned (C:Par) (l r i:Nat):Nat:=(mny C l r (i + 1)).1
def term (C:Par) (l r m i:Nat):Nat:=cst C.cs l (i + 1) + (C.V (l + 1 + i) r).getD (m - C.ws.getD (l + 1 + i) 0) 0 + (C.V l (l + 1 + i)).getD m 0
theorem ned_step (C:Par) (l r i:Nat):stp C.ws C.cs.length l r (l + 1 + i)≤ned C l r i:=by
  simp only [ned,mny];omega
theorem ned_next (C:Par) (l r i:Nat):ned C l r (i + 1)=max (ned C l r i) (stp C.ws C.cs.length l r (l + 1 + (i + 1))):=by
  simp only [ned,mny]
theorem ned_mono (C:Par) (l r i j:Nat) (h:i≤j):ned C l r i≤ned C l r j:=by
  induction j with
  | zero => obtain rfl:i=0:=by omega
            exact Nat.le_refl _
  | succ j ih=>
    rcases Nat.lt_or_ge j i with h2 | h2
    · obtain rfl:i=j + 1:=by omega
      exact Nat.le_refl _
    · have:=ih h2;rw [ned_next];omega
theorem ned_le (C:Par) (l r i b:Nat) (h:∀ j,j≤i→stp C.ws C.cs.length l r (l + 1 + j)≤b):ned C l r i≤b:=by
  induction i with
  | zero=>have:=h 0 (Nat.le_refl _);simp only [ned,mny];omega
  | succ i ih=>have h1:=ih (fun j hj=>h j (by omega));have:=h (i + 1) (Nat.le_refl _);rw [ned_next];omega
theorem mny_at (C:Par) (l r m j:Nat) (hm:m < C.cap + 1 - kp C.ws l) :
    (mny C l r (j + 1)).2.2.getD m 0=if ned C l r j≤m then min ((mny C l r j).2.2.getD m 0) (term C l r m j) else (mny C l r j).2.2.getD m 0:=by
  have hl:=mny_length C l r j
  have h1:ned C l r j=max (mny C l r j).1 (stp C.ws C.cs.length l r (l + 1 + j)):=rfl
  have h2:(mny C l r j).2.1 + C.cs.getD (l + j) 0=cst C.cs l (j + 1):=by rw [mny_cst];rfl
  have h3:(mny C l r (j + 1)).2.2=if ned C l r j < (mny C l r j).2.2.length then spm (mny C l r j).2.2 (C.V (l + 1 + j) r) (C.V l (l + 1 + j)) (ned C l r j) (cst C.cs l (j + 1)) (C.ws.getD (l + 1 + j) 0) (mny C l r j).2.2.length else (mny C l r j).2.2:=by
    rw [← h2,h1];rfl
  rw [h3]
  by_cases h4:ned C l r j≤m
  · rw [if_pos h4,if_pos (by omega),spm_getD _ _ _ _ _ _ _ _ (by omega),if_pos (by omega),sp1,if_pos h4];rfl
  · rw [if_neg h4]
    split
    · rw [spm_getD _ _ _ _ _ _ _ _ (by omega),if_pos (by omega),sp1,if_neg h4]
    · rfl
theorem mny_min (C:Par) (l r m:Nat) (hm:m < C.cap + 1 - kp C.ws l) (i:Nat):∀ j,i < j→ned C l r i≤m→(mny C l r j).2.2.getD m 0≤term C l r m i:=by
  intro j
  induction j with
  | zero=>intro h;omega
  | succ j ih=>
    intro h hn
    rw [mny_at C l r m j hm]
    rcases Nat.lt_or_ge i j with h2 | h2
    · have:=ih h2 hn
      split <;> omega
    · obtain rfl:i=j:=by omega
      rw [if_pos hn];omega
theorem mny_att (C:Par) (l r m:Nat) (hm:m < C.cap + 1 - kp C.ws l) (j:Nat):(mny C l r j).2.2.getD m 0=nn∨∃ i,i < j∧ned C l r i≤m∧(mny C l r j).2.2.getD m 0=term C l r m i:=by
  induction j with
  | zero=>left;simp only [mny,List.getD_eq_getElem?_getD];rw [List.getElem?_replicate,if_pos hm];rfl
  | succ j ih=>
    rw [mny_at C l r m j hm]
    split
    · rename_i h1
      rcases Nat.le_total ((mny C l r j).2.2.getD m 0) (term C l r m j) with h2 | h2
      · rw [Nat.min_eq_left h2]
        rcases ih with h | ⟨i,h3,h4,h5⟩
        · exact .inl h
        · exact .inr ⟨i,by omega,h4,h5⟩
      · rw [Nat.min_eq_right h2];exact .inr ⟨j,by omega,h1,rfl⟩
    · rcases ih with h | ⟨i,h3,h4,h5⟩
      · exact .inl h
      · exact .inr ⟨i,by omega,h4,h5⟩
def vl (C:Par) (l r m:Nat):Nat:=(C.V l r).getD m 0
theorem vl_one (hR:Rec C) {l m:Nat} (hr:l + 1≤C.cs.length) (hm:m < C.cap + 1 - kp C.ws l):vl C l (l + 1) m=if sg C.ws l (l + 1)≤m then own C.cs (l + 1) else nn:=by
  unfold vl
  rw [hR l (l + 1) (by omega) hr,if_pos rfl,one,List.getD_eq_getElem?_getD,List.getElem?_map,List.getElem?_range hm];rfl
theorem vl_many (hR:Rec C) {l r m:Nat} (hl:l + 1 < r) (hr:r≤C.cs.length):vl C l r m=(mny C l r (r - l - 1)).2.2.getD m 0:=by
  unfold vl
  rw [hR l r (by omega) hr,if_neg (by omega)]
theorem vl_min (hR:Rec C) {l r m i:Nat} (hl:l + 1 + i < r) (hr:r≤C.cs.length) (hm:m < C.cap + 1 - kp C.ws l) (hn:ned C l r i≤m) :
    vl C l r m≤cst C.cs l (i + 1) + vl C (l + 1 + i) r (m - C.ws.getD (l + 1 + i) 0) + vl C l (l + 1 + i) m:=by
  rw [vl_many hR (by omega) hr]
  exact mny_min C l r m hm i _ (by omega) hn
theorem vl_att (hR:Rec C) {l r m:Nat} (hl:l + 1 < r) (hr:r≤C.cs.length) (hm:m < C.cap + 1 - kp C.ws l) (hv:vl C l r m < nn) :
    ∃ i,l + 1 + i < r∧ned C l r i≤m∧vl C l r m=cst C.cs l (i + 1) + vl C (l + 1 + i) r (m - C.ws.getD (l + 1 + i) 0) + vl C l (l + 1 + i) m:=by
  rw [vl_many hR hl hr] at hv ⊢
  rcases mny_att C l r m hm (r - l - 1) with h | ⟨i,h1,h2,h3⟩
  · omega
  · exact ⟨i,by omega,h2,h3⟩
end
end Go.Proofs.YtnpdcjdmbkcpbaaGreat.Ins
namespace Go.Proofs.YtnpdcjdmbkcpbaaGreat.Ins
structure WS where
  (pr sv gr:Nat→Bool)
  (em sd:Bool)
  (last words peak cost:Nat)
def on (f:Nat→Bool) (i:Nat) (b:Bool):Nat→Bool:=fun j=>if j=i then b else f j
def wlegal (n:Nat) (s:WS) (k id:Nat):Bool:=
  if k=1 then !s.sv id && s.pr (id - 1) else if k=2 then s.sv id && !s.pr id && s.pr (id - 1) else if k=3 then s.pr id
  else if k=4 then s.pr n && !s.em else if k=5 then !s.sd else id == s.last && s.gr id && s.pr (id - 1)
def wmore (ws:List Nat) (n k id:Nat):Nat:=
  if k=1∨k=2 then ws.getD id 0 else if k=5 then ws.getD n 0 else if k=6 then kp ws (id - 1) else 0
def wdo (ws cs:List Nat) (n:Nat) (s:WS) (k id:Nat):WS:=
  let t:={ s with words:=s.words + wmore ws n k id,peak:=max s.peak (s.words + wmore ws n k id) }
  if k=1∨k=2 then { t with pr:=on s.pr id true,sv:=on s.sv id true,cost:=s.cost + cs.getD (id - 1) 0 }
  else if k=3 then { t with pr:=on s.pr id false,words:=t.words - ws.getD id 0 }
  else if k=4 then { t with em:=true }
  else if k=5 then { t with sd:=true,gr:=on s.gr n true }
  else { t with gr:=on (on s.gr (id - 1) (decide (1 < id))) id false,words:=t.words - ws.getD id 0,last:=s.last - 1 }
def wright (n k id:Nat):Prop:=(k=4∨k=5)∧id=0∨(k=1∨k=2∨k=3∨k=6)∧1≤id∧id≤n
inductive Runs (ws cs:List Nat) (n cap:Nat):WS→List (Nat × Nat)→WS→Prop
  | nil (s):Runs ws cs n cap s [] s
  | cons {s k id l s'}:wright n k id→wlegal n s k id=true→s.words + wmore ws n k id≤cap→(k=3∨k=6→ws.getD id 0≤s.words + wmore ws n k id)→Runs ws cs n cap (wdo ws cs n s k id) l s'→Runs ws cs n cap s ((k,id) :: l) s'
theorem Runs.append {ws cs:List Nat} {n cap:Nat} {s s1 s2:WS} {a b:List (Nat × Nat)} (h:Runs ws cs n cap s a s1) (h2:Runs ws cs n cap s1 b s2):Runs ws cs n cap s (a ++ b) s2:=by
  induction h with
  | nil s=>exact h2
  | cons h3 h4 h5 h7 h6 ih=>exact .cons h3 h4 h5 h7 (ih h2)
theorem Runs.one {ws cs:List Nat} {n cap:Nat} {s:WS} {k id:Nat} (h1:wright n k id) (h2:wlegal n s k id=true) (h3:s.words + wmore ws n k id≤cap) (h4:k=3∨k=6→ws.getD id 0≤s.words + wmore ws n k id):Runs ws cs n cap s [(k,id)] (wdo ws cs n s k id):=.cons h1 h2 h3 h4 (.nil _)
def cmp (s id:Nat):Nat × Nat:=if id≤s then (2,id) else (1,id)
def fwd (l s:Nat):Nat→List (Nat × Nat)
  | 0=>[]
  | j + 1=>fwd l s j ++ (cmp (max s (l + j)) (l + j + 1) :: if j=0 then [] else [(3,l + j)])
def leaf (n r s:Nat):List (Nat × Nat):=(if r=n then [cmp s r,(4,0),(3,r),(5,0)] else []) ++ [(6,r)]
inductive Wr (C:Par):Nat→Nat→Nat→Nat→Nat→List (Nat × Nat)→Prop
  | leaf {l m s}:Wr C l (l + 1) m s (if l + 1=C.cs.length then max s (l + 1) else s) (leaf C.cs.length (l + 1) s)
  | split {l r m s s1 s2 i a b}:l + 1 + i < r→ned C l r i≤m →
      vl C l r m=cst C.cs l (i + 1) + vl C (l + 1 + i) r (m - C.ws.getD (l + 1 + i) 0) + vl C l (l + 1 + i) m →
      Wr C (l + 1 + i) r (m - C.ws.getD (l + 1 + i) 0) (max s (l + 1 + i)) s1 a→Wr C l (l + 1 + i) m s1 s2 b →
      Wr C l r m s s2 (fwd l s (i + 1) ++ (a ++ ((3,l + 1 + i) :: b)))
section
variable {C:Par}
structure PIn (C:Par) (l r B s:Nat) (σ:WS):Prop where
  pl:σ.pr l=true
  np:∀ id,l < id→id≤r→σ.pr id=false
  sv:∀ id,1≤id→σ.sv id=decide (id≤s)
  ls:l≤s
  rs:r < C.cs.length→r≤s
  last:σ.last=r
  words:σ.words=B + (if r=C.cs.length then 0 else C.ws.getD r 0)
  gr:∀ id,σ.gr id=decide (id=r∧r≠C.cs.length)
  em:σ.em=decide (r≠C.cs.length)
  sd:σ.sd=decide (r≠C.cs.length)
structure POut (C:Par) (l r B M s K:Nat) (σ σ':WS):Prop where
  pr:∀ id,¬ (l < id∧id≤r)→σ'.pr id=σ.pr id
  np:∀ id,l < id→id≤r→σ'.pr id=false
  sv:∀ id,1≤id→σ'.sv id=decide (id≤s)
  ls:r≤s
  last:σ'.last=l
  words:σ'.words=B + kp C.ws l
  gr:∀ id,σ'.gr id=decide (id=l∧l≠0)
  em:σ'.em=true
  sd:σ'.sd=true
  peak:σ'.peak≤max σ.peak M
  fit:B + kp C.ws l≤M
  cost:σ'.cost=σ.cost + K
theorem on_same (f:Nat→Bool) (i:Nat) (b:Bool):on f i b i=b:=by simp [on]
theorem on_ne (f:Nat→Bool) {i j:Nat} (b:Bool) (h:j≠i):on f i b j=f j:=by simp [on,h]
structure FOut (C:Par) (l s j W M:Nat) (σ σ':WS):Prop where
  pr:∀ id,σ'.pr id=if id=l + j then true else σ.pr id
  sv:∀ id,1≤id→σ'.sv id=decide (id≤(if j=0 then s else max s (l + j)))
  words:σ'.words=W + (if j=0 then 0 else C.ws.getD (l + j) 0)
  same:σ'.last=σ.last∧σ'.gr=σ.gr∧σ'.em=σ.em∧σ'.sd=σ.sd
  peak:σ'.peak≤max σ.peak M
  cost:σ'.cost=σ.cost + cst C.cs l j
theorem cmp_step {n cap l s id:Nat} {ws cs:List Nat} {σ:WS} (hsv:∀ id,1≤id→σ.sv id=decide (id≤s)) (h1:1≤id) (hn:id≤n) (hp:σ.pr (id - 1)=true) (hnp:σ.pr id=false) (hc:σ.words + ws.getD id 0≤cap) :
    Runs ws cs n cap σ [cmp s id] { σ with words:=σ.words + ws.getD id 0,peak:=max σ.peak (σ.words + ws.getD id 0),pr:=on σ.pr id true,sv:=on σ.sv id true,cost:=σ.cost + cs.getD (id - 1) 0 }:=by
  unfold cmp
  have h2:=hsv id h1
  split
  · rename_i h
    exact Runs.one (.inr ⟨.inr (.inl rfl),h1,hn⟩) (by simp [wlegal,h2,h,hp,hnp,-List.getD_eq_getElem?_getD]) (by simpa [wmore,-List.getD_eq_getElem?_getD] using hc) (by omega)
  · rename_i h
    exact Runs.one (.inr ⟨.inl rfl,h1,hn⟩) (by simp [wlegal,h2,h,hp,-List.getD_eq_getElem?_getD]) (by simpa [wmore,-List.getD_eq_getElem?_getD] using hc) (by omega)
theorem fwd_law {n cap l s W M:Nat} {σ:WS} (hsv:∀ id,1≤id→σ.sv id=decide (id≤s)) (hls:l≤s) (hpl:σ.pr l=true) (hW:σ.words=W) (hM:M≤cap) :
    ∀ j,l + j≤n→(∀ id,l < id→id≤l + j→σ.pr id=false)→(∀ i,i < j→W + C.ws.getD (l + 1 + i) 0 + (if i=0 then 0 else C.ws.getD (l + i) 0)≤M) →
      ∃ σ',Runs C.ws C.cs n cap σ (fwd l s j) σ'∧FOut C l s j W M σ σ':=by
  intro j
  induction j with
  | zero=>
    intro _ _ _
    refine ⟨σ,.nil _,fun id=>?_,fun id h=>by simp [hsv id h],by simp [hW],⟨rfl,rfl,rfl,rfl⟩,by omega,rfl⟩
    split
    · rename_i h;rw [h,Nat.add_zero,hpl]
    · rfl
  | succ j ih=>
    intro hn hnp hb
    obtain ⟨σ1,h1,k⟩:=ih (by omega) (fun id a b=>hnp id a (by omega)) (fun i hi=>hb i (by omega))
    have b0:=hb j (by omega)
    have e1:C.ws.getD (l + 1 + j) 0=C.ws.getD (l + j + 1) 0:=by rw [show l + 1 + j=l + j + 1 by omega]
    rw [e1] at b0
    have hs:∀ id,1≤id→σ1.sv id=decide (id≤max s (l + j)):=fun id h=>by
      rw [k.sv id h];split
      · rename_i h;subst h;rw [Nat.add_zero,Nat.max_eq_left hls]
      · rfl
    have p0:σ1.pr (l + j)=true:=by rw [k.pr,if_pos rfl]
    have p1:σ1.pr (l + j + 1)=false:=by rw [k.pr,if_neg (by omega),hnp _ (by omega) (by omega)]
    have hw:=k.words
    have hc:=cmp_step (n:=n) (cap:=cap) (s:=max s (l + j)) (id:=l + j + 1) (ws:=C.ws) (cs:=C.cs) (l:=l) hs (by omega) (by omega) p0 p1 (by split at b0 <;> (first | rw [if_pos ‹_›] at hw | rw [if_neg ‹_›] at hw) <;> omega)
    have hsv':∀ id,1≤id→on σ1.sv (l + j + 1) true id=decide (id≤max s (l + (j + 1))):=fun id h=>by
      unfold on;split
      · rename_i e;subst e;exact (decide_eq_true (by omega)).symm
      · rename_i e;rw [hs id h];apply decide_eq_decide.2;omega
    have hpk:=k.peak
    have hco:=k.cost
    by_cases hj:j=0
    · subst hj
      simp only [if_pos,Nat.add_zero] at hw b0 hc hsv' p0 p1
      have hr:=h1.append hc
      rw [show fwd l s 0 ++ [cmp (max s l) (l + 1)]=fwd l s (0 + 1) from rfl] at hr
      refine ⟨_,hr,?_⟩
      · refine ⟨fun id=>?_,fun id h=>?_,?_,k.same,?_,?_⟩
        · show on σ1.pr (l + 1) true id=if id=l + 1 then true else σ.pr id
          unfold on
          by_cases e:id=l + 1
          · rw [if_pos e,if_pos e]
          · rw [if_neg e,if_neg e,k.pr];split
            · rename_i e2;rw [e2,Nat.add_zero,hpl]
            · rfl
        · rw [if_neg (by omega)];exact hsv' id h
        · simp [hw]
        · show max σ1.peak _≤_
          omega
        · show σ1.cost + _=_
          rw [hco,cst,cst,cst];simp
    · rw [if_neg hj] at hw b0
      have hfree:=Runs.one (ws:=C.ws) (cs:=C.cs) (n:=n) (cap:=cap) (s:={ σ1 with words:=σ1.words + C.ws.getD (l + j + 1) 0,peak:=max σ1.peak (σ1.words + C.ws.getD (l + j + 1) 0),pr:=on σ1.pr (l + j + 1) true,sv:=on σ1.sv (l + j + 1) true,cost:=σ1.cost + C.cs.getD (l + j + 1 - 1) 0 }) (k:=3) (id:=l + j)
        (.inr ⟨.inr (.inr (.inl rfl)),by omega,by omega⟩) (by simp [wlegal,on,p0,-List.getD_eq_getElem?_getD]) (by simp [wmore,-List.getD_eq_getElem?_getD];omega) (by intro _;simp [wmore,-List.getD_eq_getElem?_getD];omega)
      have hr:=h1.append (hc.append hfree)
      rw [show fwd l s j ++ ([cmp (max s (l + j)) (l + j + 1)] ++ [(3,l + j)])=fwd l s (j + 1) by rw [fwd,if_neg hj];rfl] at hr
      refine ⟨_,hr,?_⟩
      · refine ⟨fun id=>?_,fun id h=>?_,?_,k.same,?_,?_⟩
        · show on (on σ1.pr (l + j + 1) true) (l + j) false id=_
          unfold on;split
          · rename_i e;subst e;rw [if_neg (by omega),hnp _ (by omega) (by omega)]
          · rename_i e
            split
            · rename_i e2;rw [if_pos (by omega)]
            · rename_i e2;rw [if_neg (by omega),k.pr,if_neg e]
        · rw [if_neg (by omega)];exact hsv' id h
        · simp [wdo,wmore,hw,← Nat.add_assoc,-List.getD_eq_getElem?_getD];omega
        · show max (max σ1.peak (σ1.words + C.ws.getD (l + j + 1) 0)) (σ1.words + C.ws.getD (l + j + 1) 0 + 0)≤_
          omega
        · simp [wdo,hco,cst,Nat.add_assoc,-List.getD_eq_getElem?_getD]
theorem Wr.mono {l r m s s':Nat} {code:List (Nat × Nat)} (h:Wr C l r m s s' code):s≤s':=by
  induction h with
  | leaf=>split <;> omega
  | split _ _ _ _ _ ih1 ih2=>omega
theorem leaf_end (hG:Good C) {cap l B s m:Nat} {σ:WS} (hn:l + 1=C.cs.length) (hi:PIn C l (l + 1) B s σ) (hsg:C.ws.getD (l + 1) 0 + kp C.ws l≤m) (hc:B + m≤cap) :
    ∃ σ',Runs C.ws C.cs C.cs.length cap σ (leaf C.cs.length (l + 1) s) σ'∧POut C l (l + 1) B (B + m) (max s (l + 1)) (own C.cs (l + 1)) σ σ':=by
  have hw:=hi.words
  rw [if_pos hn] at hw
  have hkp:kp C.ws (l + 1 - 1)=kp C.ws l:=rfl
  have p1:=hi.np (l + 1) (by omega) (by omega)
  have pl:=hi.pl
  have em:=hi.em
  have sd:=hi.sd
  have gr:=hi.gr
  have la:=hi.last
  have sv:=hi.sv (l + 1) (by omega)
  have hown:own C.cs (l + 1)=C.cs.getD l 0:=by unfold own;rw [if_pos hn];rfl
  rw [hown]
  rw [← hn] at em sd gr ⊢
  simp at em sd gr
  have hgs:∀ id,σ.gr id=false:=gr
  have hls:=hi.ls
  have fin:∀ σ':WS,σ'={ pr:=on (on σ.pr (l + 1) true) (l + 1) false,sv:=on σ.sv (l + 1) true,gr:=on (on (on σ.gr (l + 1) true) l (decide (1 < l + 1))) (l + 1) false,em:=true,sd:=true,last:=l,words:=B + kp C.ws l,peak:=max (max (max (max (max σ.peak (B + C.ws.getD (l + 1) 0)) (B + C.ws.getD (l + 1) 0)) (B + C.ws.getD (l + 1) 0)) (B + C.ws.getD (l + 1) 0)) (B + C.ws.getD (l + 1) 0 + kp C.ws l),cost:=σ.cost + C.cs.getD l 0 }→POut C l (l + 1) B (B + m) (max s (l + 1)) (C.cs.getD l 0) σ σ':=by
    rintro σ' rfl
    refine ⟨fun id h=>?_,fun id h1 h2=>?_,fun id h=>?_,by omega,rfl,rfl,fun id=>?_,rfl,rfl,by show max _ _≤_;omega,by omega,rfl⟩
    · show on (on σ.pr (l + 1) true) (l + 1) false id=_
      rw [on_ne _ _ (by omega),on_ne _ _ (by omega)]
    · obtain rfl:id=l + 1:=by omega
      exact on_same _ _ _
    · show on σ.sv (l + 1) true id=_
      unfold on;split
      · rename_i e;subst e;exact (decide_eq_true (by omega)).symm
      · rename_i e;rw [hi.sv id h];apply decide_eq_decide.2;omega
    · show on (on (on σ.gr (l + 1) true) l (decide (1 < l + 1))) (l + 1) false id=_
      unfold on;split
      · rename_i e;subst e;simp
      · split
        · rename_i e1 e2;subst e2;apply decide_eq_decide.2;omega
        · rename_i e1 e2;rw [hgs];simp [e2]
  by_cases hs:l + 1≤s
  all_goals
    simp only [leaf,cmp,hs,if_pos,if_neg,List.cons_append,List.nil_append,not_false_eq_true]
    refine ⟨_,.cons (.inr ⟨by omega,by omega,by omega⟩) (by simp [wlegal,sv,hs,p1,pl,-List.getD_eq_getElem?_getD]) (by simp [wmore,-List.getD_eq_getElem?_getD];omega) (by omega) (.cons (.inl ⟨by omega,rfl⟩) (by simp [wlegal,wdo,on,em,-List.getD_eq_getElem?_getD]) (by simp [wmore,wdo,-List.getD_eq_getElem?_getD];omega) (by omega) (.cons (.inr ⟨by omega,by omega,by omega⟩) (by simp [wlegal,wdo,on,-List.getD_eq_getElem?_getD]) (by simp [wmore,wdo,-List.getD_eq_getElem?_getD];omega) (by intro _;simp [wmore,wdo,-List.getD_eq_getElem?_getD];try omega) (.cons (.inl ⟨by omega,rfl⟩) (by simp [wlegal,wdo,sd,-List.getD_eq_getElem?_getD]) (by simp [wmore,wdo,-List.getD_eq_getElem?_getD];omega) (by omega) (.cons (.inr ⟨by omega,by omega,by omega⟩) (by simp [wlegal,wdo,on,la,pl,-List.getD_eq_getElem?_getD]) (by simp [wmore,wdo,-List.getD_eq_getElem?_getD];omega) (by intro _;simp [wmore,wdo,-List.getD_eq_getElem?_getD];try omega) (.nil _))))),fin _ ?_⟩
    simp [wdo,wmore,hw,la,-List.getD_eq_getElem?_getD]
    try omega
theorem leaf_mid (hG:Good C) {cap l B s m:Nat} {σ:WS} (hn:l + 1 < C.cs.length) (hi:PIn C l (l + 1) B s σ) (hsg:C.ws.getD (l + 1) 0 + kp C.ws l≤m) (hc:B + m≤cap) :
    ∃ σ',Runs C.ws C.cs C.cs.length cap σ (leaf C.cs.length (l + 1) s) σ'∧POut C l (l + 1) B (B + m) s (own C.cs (l + 1)) σ σ':=by
  have hw:=hi.words
  rw [if_neg (by omega)] at hw
  have hkp:kp C.ws (l + 1 - 1)=kp C.ws l:=rfl
  have pl:=hi.pl
  have em:=hi.em
  have sd:=hi.sd
  have gr:=hi.gr
  have la:=hi.last
  have rs:=hi.rs hn
  have hown:own C.cs (l + 1)=0:=by unfold own;rw [if_neg (by omega)]
  have hne:l + 1≠C.cs.length:=by omega
  rw [hown]
  simp [hne] at em sd
  have gr:∀ id,σ.gr id=decide (id=l + 1):=fun id=>by rw [gr id];apply decide_eq_decide.2;omega
  unfold leaf
  rw [if_neg hne,List.nil_append]
  refine ⟨_,Runs.one (.inr ⟨by omega,by omega,by omega⟩) (by simp [wlegal,la,gr,pl,-List.getD_eq_getElem?_getD]) (by simp [wmore,-List.getD_eq_getElem?_getD];omega) (by intro _;simp [wmore,-List.getD_eq_getElem?_getD];omega),?_⟩
  refine ⟨fun id h=>rfl,fun id h1 h2=>hi.np id h1 h2,fun id h=>hi.sv id h,rs,by simp [wdo,la,-List.getD_eq_getElem?_getD],by simp [wdo,wmore,hw,-List.getD_eq_getElem?_getD];omega,fun id=>?_,by simp [wdo,em,-List.getD_eq_getElem?_getD],by simp [wdo,sd,-List.getD_eq_getElem?_getD],?_,by omega,by simp [wdo,-List.getD_eq_getElem?_getD]⟩
  · show on (on σ.gr l (decide (1 < l + 1))) (l + 1) false id=_
    unfold on;split
    · rename_i e;subst e;simp
    · split
      · rename_i e1 e2;subst e2;apply decide_eq_decide.2;omega
      · rename_i e1 e2;rw [gr];apply decide_eq_decide.2;omega
  · simp [wdo,wmore,-List.getD_eq_getElem?_getD];omega
theorem part_law (hG:Good C) (hR:Rec C) {cap:Nat}:∀ {l r m s s' code},Wr C l r m s s' code→∀ {B:Nat} {σ:WS},l < r→r≤C.cs.length→m < C.cap + 1 - kp C.ws l→vl C l r m < nn→PIn C l r B s σ→B + m≤cap →
    ∃ σ',Runs C.ws C.cs C.cs.length cap σ code σ'∧POut C l r B (B + m) s' (vl C l r m) σ σ':=by
  intro l r m s s' code h
  induction h with
  | @leaf l m s=>
    intro B σ hl hr hm hv hi hc
    have hv1:=vl_one hR hr hm
    have hsg:sg C.ws l (l + 1)≤m:=by
      rcases Nat.lt_or_ge m (sg C.ws l (l + 1)) with h | h
      · rw [hv1,if_neg (by omega)] at hv;omega
      · exact h
    rw [hv1,if_pos hsg]
    unfold sg at hsg
    by_cases hn:l + 1=C.cs.length
    · rw [if_pos hn];exact leaf_end hG hn hi hsg hc
    · rw [if_neg hn];exact leaf_mid hG (by omega) hi hsg hc
  | @split l r m s s1 s2 i a b h1 h2 h3 h4 h5 ih1 ih2=>
    intro B σ hl hr hm hv hi hc
    obtain ⟨k,hk⟩:∃ k,k=l + 1 + i:=⟨_,rfl⟩
    have hst:=ned_step C l r i
    rw [← hk] at h1 h3 h4 h5 ih1 ih2 hst ⊢
    have hwk:C.ws.getD k 0≤m:=by unfold stp at hst;omega
    have hkp:kp C.ws k=C.ws.getD k 0:=by unfold kp;rw [if_neg (by omega)]
    have w0:=hi.words
    obtain ⟨σ1,r1,f⟩:=fwd_law (C:=C) (n:=C.cs.length) (cap:=cap) (W:=σ.words) (M:=B + m) hi.sv hi.ls hi.pl rfl hc (i + 1) (by omega) (fun id x y=>hi.np id x (by omega)) (fun j hj=>by
      have:=ned_step C l r j
      have h7:=ned_mono C l r j i (by omega)
      unfold stp at this
      rw [show l + 1 + j - 1=l + j by omega] at this
      have e1:(l + j=l)=(j=0):=by apply propext;omega
      simp only [e1] at this
      omega)
    have fw:=f.words
    have fpr:=f.pr
    have fsv:=f.sv
    obtain ⟨fl,fg,fe,fs⟩:=f.same
    have fp:=f.peak
    have fc:=f.cost
    simp only [Nat.add_eq_zero_iff,Nat.one_ne_zero,and_false,if_false,show l + (i + 1)=k by omega] at fw fpr fsv
    have i1:PIn C k r (B + C.ws.getD k 0) (max s k) σ1:=by
      refine ⟨by rw [fpr,if_pos rfl],fun id x y=>by rw [fpr,if_neg (by omega)];exact hi.np id (by omega) y,fsv,by omega,fun hx=>by have:=hi.rs hx;omega,fl.trans hi.last,by omega,fun id=>by rw [fg];exact hi.gr id,fe.trans hi.em,fs.trans hi.sd⟩
    obtain ⟨σ2,r2,g⟩:=ih1 h1 hr (by omega) (by omega) i1 (by omega)
    have gw:=g.words
    have gp:=g.peak
    have gc:=g.cost
    have gfit:=g.fit
    have p2:σ2.pr k=true:=by rw [g.pr k (by omega),fpr,if_pos rfl]
    have r3:=Runs.one (ws:=C.ws) (cs:=C.cs) (n:=C.cs.length) (cap:=cap) (s:=σ2) (k:=3) (id:=k) (.inr ⟨by omega,by omega,by omega⟩) (by simp [wlegal,p2,-List.getD_eq_getElem?_getD]) (by simp [wmore,-List.getD_eq_getElem?_getD];omega) (by intro _;simp [wmore,-List.getD_eq_getElem?_getD];omega)
    obtain ⟨σ3,hσ3⟩:∃ a,a=wdo C.ws C.cs C.cs.length σ2 3 k:=⟨_,rfl⟩
    rw [← hσ3] at r3
    have q1:σ3.pr=on σ2.pr k false:=by rw [hσ3];simp [wdo,-List.getD_eq_getElem?_getD]
    have q2:σ3.sv=σ2.sv:=by rw [hσ3];simp [wdo,-List.getD_eq_getElem?_getD]
    have q3:σ3.gr=σ2.gr:=by rw [hσ3];simp [wdo,-List.getD_eq_getElem?_getD]
    have q4:σ3.em=σ2.em:=by rw [hσ3];simp [wdo,-List.getD_eq_getElem?_getD]
    have q5:σ3.sd=σ2.sd:=by rw [hσ3];simp [wdo,-List.getD_eq_getElem?_getD]
    have q6:σ3.last=σ2.last:=by rw [hσ3];simp [wdo,-List.getD_eq_getElem?_getD]
    have q7:σ3.words=B + C.ws.getD k 0:=by rw [hσ3];simp [wdo,wmore,-List.getD_eq_getElem?_getD];omega
    have q8:σ3.peak=max σ2.peak σ2.words:=by rw [hσ3];simp [wdo,wmore,-List.getD_eq_getElem?_getD]
    have q9:σ3.cost=σ2.cost:=by rw [hσ3];simp [wdo,-List.getD_eq_getElem?_getD]
    have ls1:=g.ls
    have ms2:=h5.mono
    have i2:PIn C l k B s1 σ3:=by
      refine ⟨?_,fun id x y=>?_,fun id x=>by rw [q2];exact g.sv id x,by omega,fun _=>by omega,by rw [q6,g.last],by rw [q7,if_neg (by omega)],fun id=>?_,?_,?_⟩
      · rw [q1,on_ne _ _ (by omega),g.pr l (by omega),fpr,if_neg (by omega),hi.pl]
      · rw [q1]
        by_cases e:id=k
        · rw [e,on_same]
        · rw [on_ne _ _ e,g.pr id (by omega),fpr,if_neg e,hi.np id x (by omega)]
      · rw [q3,g.gr];apply decide_eq_decide.2;omega
      · rw [q4,g.em];exact (decide_eq_true (by omega)).symm
      · rw [q5,g.sd];exact (decide_eq_true (by omega)).symm
    obtain ⟨σ4,r4,u⟩:=ih2 (by omega) (by omega) hm (by omega) i2 hc
    have up:=u.peak
    have uc:=u.cost
    refine ⟨σ4,r1.append (r2.append (r3.append r4)),⟨fun id x=>?_,fun id x y=>?_,u.sv,by omega,u.last,u.words,u.gr,u.em,u.sd,by omega,u.fit,by omega⟩⟩
    · have hne:id≠k:=by omega
      rw [u.pr id (by omega),q1,on_ne _ _ hne,g.pr id (by omega),fpr,if_neg hne]
    · by_cases e:id≤k
      · exact u.np id x e
      · rw [u.pr id (by omega),q1,on_ne _ _ (by omega),g.np id (by omega) y]
end
end Go.Proofs.YtnpdcjdmbkcpbaaGreat.Ins
namespace Go.Proofs.YtnpdcjdmbkcpbaaGreat.Ins
end Go.Proofs.YtnpdcjdmbkcpbaaGreat.Ins
namespace Go.Proofs.YtnpdcjdmbkcpbaaGreat.Ins
open Go.RowKit
structure BR (C:Par) (K:List Nat) (w:World) (l r:Nat) (wr:World):Prop where
  s:Slv C K wr
  oth:Oth [C.mb] w wr
  b0:wr.cell? ⟨w.heap.size,0,none⟩=some (.int .i64 l)
  b1:wr.cell? ⟨w.heap.size,1,none⟩=some (.int .i64 r)
theorem BR.step {C:Par} {K:List Nat} {w wr wr':World} {l r:Nat} (h:BR C K w l r wr) (hm:C.mb < w.heap.size) (hs:Slv C K wr') (ho:Oth [C.mb] wr wr'):BR C K w l r wr':=
  ⟨hs,h.oth.trans ho (Fr.refl _ _),ho.cell h.b0 (by simp;omega),ho.cell h.b1 (by simp;omega)⟩
theorem BR.call {C:Par} {K:List Nat} {w wr wr':World} {l r:Nat} (h:BR C K w l r wr) (hm:C.mb < w.heap.size) (ho:Oth [] wr wr'):BR C K w l r wr':=
  h.step hm (h.s.oth ho (by simp)) (ho.mono (by simp))
theorem BR.S {C:Par} {K:List Nat} {w wr:World} {l r:Nat} (h:BR C K w l r wr):BR C K w l r wr∧wr.cell? ⟨C.p,0,none⟩=some (.slice (some ⟨C.g1,0,none⟩) C.ws.length C.c1)∧wr.cell? ⟨C.p,1,none⟩=some (.slice (some ⟨C.g2,0,none⟩) C.cs.length C.c2)∧wr.cell? ⟨w.heap.size,0,none⟩=some (.int .i64 l)∧wr.cell? ⟨w.heap.size,1,none⟩=some (.int .i64 (r:Int)):=
  ⟨h,h.s.sol.at_.1,h.s.sol.at_.2.1,h.b0,h.b1⟩
theorem br_init {C:Par} {K:List Nat} {w:World} {l r:Nat} (h:Slv C K w):BR C K w l r (w.alloc (.cells #[.int .i64 l,.int .i64 r] 103)):=by
  have ho:Oth [] w (w.alloc (.cells #[.int .i64 l,.int .i64 r] 103)):=(Oth.refl _ _).alloc _
  obtain ⟨k1,k2⟩:=box1_keep (w:=w) (a:=.int .i64 l) (b:=.int .i64 r) (t1:=103) (S:=[]) (by simp) (Oth.refl _ _)
  exact ⟨h.oth ho (by simp),ho.mono (by simp),k1,k2⟩
theorem BR.S0 {C:Par} {K:List Nat} {w wr:World} {l r:Nat} (h:BR C K w l r wr):BR C K w l r wr∧wr.cell? ⟨w.heap.size,0,none⟩=some (.int .i64 l)∧wr.cell? ⟨w.heap.size,1,none⟩=some (.int .i64 (r:Int)):=⟨h,h.b0,h.b1⟩
theorem br_keep {C:Par} {K:List Nat} {w wr wr':World} {l r:Nat} (hm:C.mb < w.heap.size) (h:BR C K w l r wr∧wr.cell? ⟨w.heap.size,0,none⟩=some (.int .i64 l)∧wr.cell? ⟨w.heap.size,1,none⟩=some (.int .i64 (r:Int))) (hs:Slv C K wr') (ho:Oth [C.mb] wr wr') :
    BR C K w l r wr'∧wr'.cell? ⟨w.heap.size,0,none⟩=some (.int .i64 l)∧wr'.cell? ⟨w.heap.size,1,none⟩=some (.int .i64 (r:Int)):=(h.1.step hm hs ho).S0
def Att (C:Par) (l r m i:Nat):Prop:=ned C l r i≤m∧vl C l r m=cst C.cs l (i + 1) + vl C (l + 1 + i) r (m - C.ws.getD (l + 1 + i) 0) + vl C l (l + 1 + i) m
def BestPost (C:Par) (K:List Nat) (l r m:Nat) (w:World) (e:Ending) (w':World):Prop:=
  ∃ i,l + 1 + i < r∧Att C l r m i∧e = .returned (.int .i64 ((l + 1 + i:Nat):Int))∧Slv C K w'∧Oth [C.mb] w w'
theorem best_post {C:Par} {K:List Nat} {l r m kq j:Nat} {w w':World} (hk:kq=l + j) (hr:kq + 1 < r) (ha:Att C l r m j) (h:BR C K w l r w'):BestPost C K l r m w (.returned (.int .i64 ((kq:Int) + 1))) w':=
  ⟨j,by omega,ha,by congr 2;omega,h.s,h.oth⟩
set_option maxRecDepth 100000 in
set_option maxHeartbeats 20000000 in
theorem best_any {C:Par} {K:List Nat} {w:World} {l r m:Nat} (hG:Good C) (hR:Rec C) (h:Slv C K w) (hl:l + 1 < r) (hr:r≤C.cs.length) (hm:m < C.cap + 1 - kp C.ws l) (hv:vl C l r m < nn) :
    Calls Tryz.prog 82 #[.pointer (some ⟨C.p,0,none⟩),.agg #[.int .i64 l,.int .i64 r],.int .i64 m] w (BestPost C K l r m w):=by
  have hex:∃ i,l + 1 + i < r∧Att C l r m i:=by
    obtain ⟨i,h1,h2,h3⟩:=vl_att hR hl hr hm hv
    exact ⟨i,h1,h2,h3⟩
  have HEX:=Lib.hid hex
  obtain ⟨b1,b2,b3,b4,b5,b6,b7⟩:=h.base
  have hmb:=h.old _ b4
  have hp:=h.old _ b1
  have hwl:C.ws.length=C.cs.length + 1:=hG.n1
  have hcl:C.cs.length≤64:=hG.n2.2
  have hcap:=hG.cap
  have hlen:=hG.vl l r (by omega) hr
  have hfd:=field97
  obtain ⟨U,hU⟩:∃ a,a=vl C l r m:=⟨_,rfl⟩
  have hUb:U≤1152921504606846976:=by rw [hU];exact hG.vb l r m
  obtain ⟨nV,hnV⟩:∃ a,a=(C.V l r).length:=⟨_,rfl⟩
  have HVAL:Hid (∀ a b,a < b→b≤C.cs.length→VS C a b):=fun a b h1 h2=>values_any hG hR _ a b rfl h1 h2
  have HV1:Hid (∀ w',Slv C K w'→Calls Tryz.prog 31 #[.pointer (some ⟨C.p,0,none⟩),.agg #[.int .i64 l,.int .i64 r]] w' fun e w2=>
      ∃ g c:Nat,e = .returned (.agg #[.slice (some ⟨g,0,none⟩) nV c])∧Slv C K w2∧Oth [C.mb] w' w2∧w2.cell? ⟨g,m,none⟩=some (.int .i64 U)):=by
    intro w' hs
    refine (HVAL.out l r (by omega) hr K w' hs).mono ?_
    rintro e w2 ⟨g,c,rfl,k1,k2,k3,k4⟩
    exact ⟨g,c,by rw [hnV],k1,k2,by rw [hU];exact k3.at_ (by omega)⟩
  have t1:(m:Int) < nV:=by omega
  have e1:IntKind.i64.wrap ((l:Int) + 1)=(l:Int) + 1:=IntWalk.i64_in _ (by omega)
  have HB:=Lib.hid (br_init (l:=l) (r:=r) h)
  have HU:=Lib.hid hU
  have HNV:=Lib.hid hnV
  have HR:=Lib.hid hR
  have HG:=Lib.hid hG
  have HWL:=Lib.hid hwl
  have HLEN:=Lib.hid hlen
  clear hex hU hnV hR hG h b1 b2 b3 b4 b5 b6 b7 hwl hlen hv
  go_enter Tryz.func82,Tryz.ntmps82
  go_wp2_with ((with_reducible refine (HV1.out _ HB.out.s).mono ?_);rintro e w' ⟨g,c,rfl,k1,k2,k3⟩;have HB2:=Lib.hid (HB.out.step hmb k1 k2);clear k1 k2;have bb0:=HB2.out.b0;have bb1:=HB2.out.b1)
  clear k3
  have HSTEP:Hid (∀ w' (kq:Nat),BR C K w l r w'→l≤kq→kq + 1 < r→Calls Tryz.prog 78 #[.agg #[.slice (some ⟨C.g1,0,none⟩) C.ws.length C.c1,.slice (some ⟨C.g2,0,none⟩) C.cs.length C.c2],.agg #[.int .i64 l,.int .i64 r],.int .i64 ((kq:Int) + 1)] w' fun e w2=>e = .returned (.int .i64 (stp C.ws C.cs.length l r (kq + 1):Nat))∧Oth [] w' w2):=
    fun w' kq hv h1 h2=>step_all (k:=kq + 1) hv.s.ws (by omega) h2 (by have h7:=HWL.out;omega) (by have h7:=HWL.out;omega) (fun i hi=>(HG.out.wb i hi).2)
  go_loopw [8,9,10] (fun x y z wr=>∃ j kq:Nat,kq=l + j∧kq + 1≤r∧x = .int .i64 ((mny C l r j).1:Nat)∧y = .int .i64 (cst C.cs l j:Nat)∧z = .int .i64 ((kq:Int) + 1)∧BR C K w l r wr∧∀ i,i < j→¬ Att C l r m i) (fun _ _ z _=>r - (intOf z).toNat)
  case atStart=>exact ⟨0,l,by omega,by omega,rfl,rfl,rfl,HB2.out,fun i hi=>by omega⟩
  case round=>
    obtain ⟨j,kq,hkq,hkr,rfl,rfl,rfl,hb,hna⟩:=hrel
    have hlt:kq + 1 < r:=by
      obtain ⟨i,h1,h2⟩:=HEX.out
      rcases Nat.lt_or_ge i j with h3 | h3
      · exact absurd h2 (hna i h3)
      · omega
    have hnm:ned C l r j≤m:=by
      obtain ⟨i,h1,h2⟩:=HEX.out
      rcases Nat.lt_or_ge i j with h3 | h3
      · exact absurd h2 (hna i h3)
      · exact Nat.le_trans (ned_mono C l r j i h3) h2.1
    have hnext:ned C l r j=max (mny C l r j).1 (stp C.ws C.cs.length l r (kq + 1)):=by rw [hkq,show l + j + 1=l + 1 + j by omega];rfl
    have hcn:cst C.cs l (j + 1)=cst C.cs l j + C.cs.getD kq 0:=by rw [cst,hkq]
    have hct:=mny_cost C HG.out l r j (by omega)
    rw [mny_cst] at hct
    have hst:=stp_le C HG.out l r (kq + 1) hlt hr
    have hsn:=ned_step C l r j
    rw [show l + 1 + j=kq + 1 by omega] at hsn
    have hsw:C.ws.getD (kq + 1) 0≤stp C.ws C.cs.length l r (kq + 1):=by unfold stp;omega
    have hcc:=HG.out.cb kq (by omega)
    have hjl:j≤64:=by omega
    have hdec:Att C l r m j ↔ U=cst C.cs l (j + 1) + vl C (kq + 1) r (m - C.ws.getD (kq + 1) 0) + vl C l (kq + 1) m:=by
      unfold Att
      rw [show l + 1 + j=kq + 1 by omega,HU.out]
      exact ⟨fun h=>h.2,fun h=>⟨hnm,h⟩⟩
    have hwk:C.ws.getD (kq + 1) 0≤m:=by omega
    have b7:=HG.out.vb (kq + 1) r (m - C.ws.getD (kq + 1) 0)
    have b8:=HG.out.vb l (kq + 1) m
    have lR:=HG.out.vl (kq + 1) r hlt hr
    have lL:=HG.out.vl l (kq + 1) (by omega) (by omega)
    have hkp:kp C.ws (kq + 1)=C.ws.getD (kq + 1) 0:=by unfold kp;rw [if_neg (by omega)]
    have hwb:=(HG.out.wb (kq + 1) (by have:=HWL.out;omega)).2
    have hcell0:C.ws[kq + 1]?=some (C.ws.getD (kq + 1) 0):=by
      have h9:kq + 1 < C.ws.length:=by have:=HWL.out;omega
      rw [List.getElem?_eq_getElem h9,List.getD_eq_getElem?_getD,List.getElem?_eq_getElem h9];rfl
    obtain ⟨nd,hN⟩:∃ a,a=(mny C l r j).1:=⟨_,rfl⟩
    obtain ⟨ct,hC⟩:∃ a,a=cst C.cs l j:=⟨_,rfl⟩
    obtain ⟨st,hS⟩:∃ a,a=stp C.ws C.cs.length l r (kq + 1):=⟨_,rfl⟩
    obtain ⟨wk,hW⟩:∃ a,a=C.ws.getD (kq + 1) 0:=⟨_,rfl⟩
    obtain ⟨cc,hCC⟩:∃ a,a=C.cs.getD kq 0:=⟨_,rfl⟩
    have HST:Hid (∀ w',BR C K w l r w'→Calls Tryz.prog 78 #[.agg #[.slice (some ⟨C.g1,0,none⟩) C.ws.length C.c1,.slice (some ⟨C.g2,0,none⟩) C.cs.length C.c2],.agg #[.int .i64 l,.int .i64 r],.int .i64 ((kq:Int) + 1)] w' fun e w2=>e = .returned (.int .i64 (st:Nat))∧Oth [] w' w2):=by
      rw [hS];exact fun w' hv=>HSTEP.out w' kq hv (by omega) hlt
    rw [← hN] at hnext ⊢
    rw [← hC] at hct hcn ⊢
    rw [← hS] at hnext hst hsw hsn
    rw [← hCC] at hcc hcn
    rw [hkp] at lR
    rw [← hW] at hdec hwk b7 lR hwb hsw
    rw [hcn] at hdec
    have hmax:(if nd < st then (st:Int) else nd)=((max nd st:Nat):Int):=by split <;> omega
    obtain ⟨nd',hnd'⟩:∃ a,a=max nd st:=⟨_,rfl⟩
    rw [← hnd'] at hnext hmax
    rw [hnext] at hnm
    have t2:(kq:Int) + 1 < r:=by omega
    have t3:¬ (m:Int) < nd':=by omega
    have t4:(kq:Int) < C.cs.length:=by omega
    have t5:(kq:Int) + 1 < C.ws.length:=by have:=HWL.out;omega
    have e5:IntKind.i64.wrap (kq:Int)=kq:=IntWalk.i64_in _ (by omega)
    have e6:IntKind.i64.wrap ((ct:Int) + cc)=ct + cc:=IntWalk.i64_in _ (by omega)
    have e7:IntKind.i64.wrap ((kq:Int) + 1 + 1)=kq + 1 + 1:=IntWalk.i64_in _ (by omega)
    have HBR:=Lib.hid hb
    have HCELL:Hid (∀ w',BR C K w l r w'→w'.cell? ⟨C.g2,kq,none⟩=some (.int .i64 (cc:Nat))):=fun w' hv=>by rw [hCC];exact hv.s.cs.at_ (by omega)
    have HCELW:Hid (∀ w',BR C K w l r w'→w'.cell? ⟨C.g1,kq + 1,none⟩=some (.int .i64 (wk:Nat))):=fun w' hv=>by rw [hW];exact hv.s.ws _ _ hcell0
    have HKQ:=Lib.hid hkq
    have HNA:=Lib.hid hna
    have HNEXT:=Lib.hid hnext
    have HCN:=Lib.hid hcn
    have HDEC:=Lib.hid hdec
    have HNN:Hid ((mny C l r (j + 1)).1=nd'):=hnext
    obtain ⟨X,hX⟩:∃ a,a=vl C (kq + 1) r (m - wk):=⟨_,rfl⟩
    obtain ⟨Y,hY⟩:∃ a,a=vl C l (kq + 1) m:=⟨_,rfl⟩
    have b7':X≤1152921504606846976:=by rw [hX];exact b7
    have b8':Y≤1152921504606846976:=by rw [hY];exact b8
    have HX:=Lib.hid hX
    have HY:=Lib.hid hY
    obtain ⟨d,hd⟩:∃ d,d=m - wk:=⟨_,rfl⟩
    have e8:IntKind.i64.wrap ((m:Int) - wk)=d:=by rw [show (m:Int) - wk=d by omega];exact IntWalk.i64_in _ (by omega)
    obtain ⟨nR,hnR⟩:∃ a,a=(C.V (kq + 1) r).length:=⟨_,rfl⟩
    obtain ⟨nL,hnL⟩:∃ a,a=(C.V l (kq + 1)).length:=⟨_,rfl⟩
    have t6:(d:Int) < nR:=by omega
    have t7:(m:Int) < nL:=by omega
    have e9:IntKind.i64.wrap ((ct:Int) + cc + X)=ct + cc + X:=IntWalk.i64_in _ (by omega)
    have e10:IntKind.i64.wrap ((ct:Int) + cc + X + Y)=ct + cc + X + Y:=IntWalk.i64_in _ (by omega)
    have HD:=Lib.hid hd
    have HVX:Hid (∀ w',Slv C K w'→Calls Tryz.prog 31 #[.pointer (some ⟨C.p,0,none⟩),.agg #[.int .i64 ((kq:Int) + 1),.int .i64 r]] w' fun e w2=>
      ∃ g c:Nat,e = .returned (.agg #[.slice (some ⟨g,0,none⟩) nR c])∧Slv C K w2∧Oth [C.mb] w' w2∧w2.cell? ⟨g,d,none⟩=some (.int .i64 X)∧g≠C.mb):=by
      intro w' hs
      refine (HVAL.out (kq + 1) r hlt hr K w' hs).mono ?_
      rintro e w2 ⟨g,c,rfl,k1,k2,k3,k4,k5⟩
      exact ⟨g,c,by rw [hnR],k1,k2,by rw [hX,← hd];exact k3.at_ (by omega),fun e=>k5 (e ▸ k1.base.2.2.2.1)⟩
    have HVY:Hid (∀ w',Slv C K w'→Calls Tryz.prog 31 #[.pointer (some ⟨C.p,0,none⟩),.agg #[.int .i64 l,.int .i64 ((kq:Int) + 1)]] w' fun e w2=>
      ∃ g c:Nat,e = .returned (.agg #[.slice (some ⟨g,0,none⟩) nL c])∧Slv C K w2∧Oth [C.mb] w' w2∧w2.cell? ⟨g,m,none⟩=some (.int .i64 Y)∧g≠C.mb):=by
      intro w' hs
      refine (HVAL.out l (kq + 1) (by omega) (by omega) K w' hs).mono ?_
      rintro e w2 ⟨g,c,rfl,k1,k2,k3,k4,k5⟩
      exact ⟨g,c,by rw [hnL],k1,k2,by rw [hY];exact k3.at_ (by omega),fun e=>k5 (e ▸ k1.base.2.2.2.1)⟩
    clear hN hC hS hW hCC hb hkq hna hnext hcn hdec hX hY hnR hnL hd b7 b8 lR lL hkp hsn hnd' hcell0
    have a1:=HBR.out.b0
    have a2:=HBR.out.b1
    go_wp2_with fail
    go_region_held3 (fun w'=>BR C K w l r w'∧w'.cell? ⟨C.p,0,none⟩=some (.slice (some ⟨C.g1,0,none⟩) C.ws.length C.c1)∧w'.cell? ⟨C.p,1,none⟩=some (.slice (some ⟨C.g2,0,none⟩) C.cs.length C.c2)∧w'.cell? ⟨w.heap.size,0,none⟩=some (.int .i64 l)∧w'.cell? ⟨w.heap.size,1,none⟩=some (.int .i64 (r:Int)))
      (first | exact (HBR.out.call hmb (Oth.refl _ _).drew).S | exact ((HBR.out.call hmb (Oth.refl _ _).drew).call hmb ho).S)
      (first | (go_at_call 78;refine (HST.out _ (HBR.out.call hmb (Oth.refl _ _).drew)).mono ?_;rintro e w' ⟨rfl,ho⟩))
    rename_i hh
    obtain ⟨hv1,s0,s1,b0,b1⟩:=hh
    have c1:=HCELL.out _ hv1
    have HBS:=Lib.hid hv1
    clear hv1 hmax ho
    go_wp2_with fail
    clear c1 s0 s1 b0 b1
    go_region_held3 (fun w'=>BR C K w l r w'∧w'.cell? ⟨w.heap.size,0,none⟩=some (.int .i64 l)∧w'.cell? ⟨w.heap.size,1,none⟩=some (.int .i64 (r:Int)))
      (first | exact (HBS.out.call hmb (Oth.refl _ _).drew).S0 | exact br_keep hmb (by assumption) k1 k2)
      (first | (go_at_call 31;(with_reducible refine (HVX.out _ (by first | exact (HBS.out.call hmb (Oth.refl _ _).drew).s | exact k1)).mono ?_);rintro e w' ⟨gX,cX,rfl,k1,k2,k3,k4⟩) | (go_at_call 31;(with_reducible refine (HVY.out _ (by first | exact (HBS.out.call hmb (Oth.refl _ _).drew).s | exact k1)).mono ?_);rintro e w' ⟨gX,cX,rfl,k1,k2,k3,k4⟩))
    rename_i w1 gQ cQ q1 q2 q3 q4 hh
    have q3':=k2.cell q3 (by simpa using q4)
    obtain ⟨hv1,b0,b1⟩:=hh
    obtain ⟨_,s0,s1,_,_⟩:=hv1.S
    have c2:=HCELW.out _ hv1
    have HBE:=Lib.hid hv1
    clear q1 q2 q3 q4 k1 k2 k4 hv1
    by_cases hq:U=ct + cc + X + Y
    · have hq':(ct:Int) + cc + X + Y=U:=by omega
      have hatt:Att C l r m j:=by rw [HDEC.out,hq,HX.out,HY.out]
      have HATT:=Lib.hid hatt
      clear hq hatt
      go_wp2_with fail
      go_quiet (fail)
      go_wp2_with fail
      go_ret
      exact best_post HKQ.out hlt HATT.out (HBE.out.call hmb ((Oth.refl _ _).drewN _))
    · have hq':¬ (ct:Int) + cc + X + Y=U:=by omega
      have hatt:¬ Att C l r m j:=by rw [HDEC.out,← HX.out,← HY.out];exact hq
      have HATT:=Lib.hid hatt
      clear hq hatt
      go_wp2_with fail
      go_quiet (fail)
      go_wp2_with fail
      go_roundw
      case rel=>exact ⟨j + 1,kq + 1,by have:=HKQ.out;omega,by omega,by rw [HNN.out],by rw [HCN.out];go_num,by go_num,HBE.out.call hmb ((Oth.refl _ _).drewN _),fun i hi=>by
        rcases Nat.lt_or_ge i j with h3 | h3
        · exact HNA.out i h3
        · obtain rfl:i=j:=by omega
          exact HATT.out⟩
      case measure=>simp [intOf];omega
end Go.Proofs.YtnpdcjdmbkcpbaaGreat.Ins
