/- Lowering a chain, in plain numbers: what it keeps, its code by places, and that the least cost is no greater than its cost. The state of package check in memory; the walks of ready, fresh, legal, more. No condition. -/
import Derived.Test.YtnpdcjdmbkcpbaaGreatXe
import Derived.BigRegion
import Derived.BigQuiet
import Derived.LoopN
import Derived.Test.YtnpdcjdmbkcpbaaGreatXd
set_option linter.unusedVariables false
set_option linter.unusedSimpArgs false
namespace Go.Proofs.YtnpdcjdmbkcpbaaGreat.Ins
def lk (K:Nat→Bool):Nat→Nat
  | 0=>0
  | p + 1=>if K p=true then p else lk K p
def bs (ws:List Nat) (K:Nat→Bool):Nat→Nat
  | 0=>0
  | p + 1=>bs ws K p + if p≠0∧K p=true then ws.getD p 0 else 0
def sw (ws:List Nat) (l:Nat):Nat→Nat
  | 0=>0
  | j + 1=>sw ws l j + ws.getD (l + j + 1) 0
def ag (cs:List Nat) (l:Nat):Nat→Nat
  | 0=>0
  | j + 1=>ag cs l j + cst cs l j
def agK (cs:List Nat) (K:Nat→Bool):Nat→Nat
  | 0=>0
  | p + 1=>agK cs K p + cst cs (lk K (p + 1)) (p - lk K (p + 1))
def kneed (ws:List Nat) (K:Nat→Bool) (p:Nat):Nat:=bs ws K p + ws.getD p 0 + sw ws (lk K p) (p - 1 - lk K p) + kp ws (p - 1)
theorem lk_le (K:Nat→Bool):∀ p,lk K (p + 1)≤p
  | 0=>by simp [lk]
  | p + 1=>by
    rw [lk]
    have:=lk_le K p
    split <;> omega
theorem lk_seg (K:Nat→Bool) (l:Nat) (hl:l=0∨K l=true):∀ j,(∀ i,l < i→i≤l + j→K i=false)→lk K (l + j + 1)=l:=by
  intro j
  induction j with
  | zero=>
    intro h
    rw [Nat.add_zero,lk]
    rcases hl with h0 | h1
    · subst h0;split <;> simp [lk]
    · rw [if_pos h1]
  | succ j ih=>
    intro h
    rw [lk,if_neg (by rw [h _ (by omega) (by omega)];simp)]
    exact ih (fun i h1 h2=>h i h1 (by omega))
theorem agK_seg (cs:List Nat) (K:Nat→Bool) (l:Nat):∀ j,(∀ i,i < j→lk K (l + i + 1)=l)→agK cs K (l + j)=agK cs K l + ag cs l j:=by
  intro j
  induction j with
  | zero=>intro _;simp [ag]
  | succ j ih=>
    intro h
    have h1:=ih (fun i hi=>h i (by omega))
    have h2:=h j (by omega)
    rw [← Nat.add_assoc,agK,h1,ag,h2,show l + j - l=j by omega];omega
theorem bs_seg (ws:List Nat) (K:Nat→Bool) (l:Nat):∀ j,(∀ i,l < i→i≤l + j→K i=false)→bs ws K (l + 1 + j)=bs ws K (l + 1):=by
  intro j
  induction j with
  | zero=>intro _;rfl
  | succ j ih=>
    intro h
    rw [← Nat.add_assoc,bs,ih (fun i h1 h2=>h i h1 (by omega)),if_neg (by rw [h (l + 1 + j) (by omega) (by omega)];simp)];omega
theorem sw_mono (ws:List Nat) (l:Nat) {i j:Nat} (h:i≤j):sw ws l i≤sw ws l j:=by
  induction j with
  | zero => obtain rfl:i=0:=by omega
            exact Nat.le_refl _
  | succ j ih=>
    rcases Nat.lt_or_ge j i with h2 | h2
    · obtain rfl:i=j + 1:=by omega
      exact Nat.le_refl _
    · have:=ih h2;rw [sw];omega
theorem sw_two (ws:List Nat) (l:Nat) {i j:Nat} (h:i + 1≤j):ws.getD (l + 1 + i) 0 + (if l + 1 + i - 1=l then 0 else ws.getD (l + 1 + i - 1) 0)≤sw ws l j:=by
  have h1:=sw_mono ws l h
  rw [sw] at h1
  rw [show l + 1 + i=l + i + 1 by omega,show l + i + 1 - 1=l + i by omega]
  split
  · omega
  · obtain ⟨k,rfl⟩:∃ k,i=k + 1:=⟨i - 1,by omega⟩
    rw [sw,show l + k + 1=l + (k + 1) by omega] at h1
    omega
theorem sw_last (ws:List Nat) (l:Nat) {j:Nat} (h:1≤j):ws.getD (l + j) 0≤sw ws l j:=by
  obtain ⟨k,rfl⟩:∃ k,j=k + 1:=⟨j - 1,by omega⟩
  rw [sw,show l + (k + 1)=l + k + 1 by omega];omega
section
variable {C:Par}
theorem seg_low (hR:Rec C) {l m:Nat} (hm:m < C.cap + 1 - kp C.ws l):∀ j,1≤j→l + j < C.cs.length →
    (∀ i,i < j→C.ws.getD (l + i + 1) 0 + sw C.ws l i + kp C.ws (l + i)≤m)→vl C l (l + j) m≤ag C.cs l j:=by
  intro j
  induction j with
  | zero=>intro h;omega
  | succ j ih=>
    intro _ hn hb
    rcases Nat.eq_zero_or_pos j with h0 | h0
    · subst h0
      have hb0:=hb 0 (by omega)
      simp only [sw,Nat.add_zero] at hb0
      rw [show l + (0 + 1)=l + 1 by omega,vl_one hR (by omega) hm,sg,if_pos (by omega),own,if_neg (by omega)]
      exact Nat.zero_le _
    · have hbj:=hb j (by omega)
      have h1:=sw_last C.ws l h0
      rw [kp,if_neg (by omega)] at hbj
      have h2:=vl_min hR (l:=l) (r:=l + (j + 1)) (m:=m) (i:=j - 1) (by omega) (by omega) hm (ned_le C l _ _ _ (fun i hi=>by
        have h3:=sw_two C.ws l (show i + 1≤j by omega)
        unfold stp
        rw [if_neg (show ¬ (l + (j + 1)=C.cs.length) by omega)]
        rw [show l + (j + 1)=l + j + 1 by omega]
        omega))
      rw [show j - 1 + 1=j by omega,show l + 1 + (j - 1)=l + j by omega] at h2
      have h4:kp C.ws (l + j)=C.ws.getD (l + j) 0:=by rw [kp,if_neg (by omega)]
      have h3:=vl_one hR (l:=l + j) (m:=m - C.ws.getD (l + j) 0) (by omega) (by rw [h4];omega)
      rw [sg,h4,if_pos (by omega),own,if_neg (by omega)] at h3
      rw [show l + (j + 1)=l + j + 1 by omega] at h2 ⊢
      rw [h3] at h2
      have h5:=ih h0 (by omega) (fun i hi=>hb i (by omega))
      rw [ag];omega
theorem seg_last (hR:Rec C) {l m:Nat} (hm:m < C.cap + 1 - kp C.ws l) (j:Nat) (h1:1≤j) (hn:l + j=C.cs.length)
    (hb:∀ i,i < j→C.ws.getD (l + i + 1) 0 + sw C.ws l i + kp C.ws (l + i)≤m):vl C l (l + j) m≤cst C.cs l j + ag C.cs l j:=by
  obtain ⟨j,rfl⟩:∃ k,j=k + 1:=⟨j - 1,by omega⟩
  rcases Nat.eq_zero_or_pos j with h0 | h0
  · subst h0
    have hb0:=hb 0 (by omega)
    simp only [sw,Nat.add_zero] at hb0
    rw [show l + (0 + 1)=l + 1 by omega,vl_one hR (by omega) hm,sg,if_pos (by omega),own,if_pos (by omega)]
    simp only [cst,ag,Nat.add_zero,Nat.add_sub_cancel];omega
  · have hbj:=hb j (by omega)
    have h1:=sw_last C.ws l h0
    rw [kp,if_neg (by omega)] at hbj
    have h2:=vl_min hR (l:=l) (r:=l + (j + 1)) (m:=m) (i:=j - 1) (by omega) (by omega) hm (ned_le C l _ _ _ (fun i hi=>by
      have h3:=sw_two C.ws l (show i + 1≤j by omega)
      unfold stp
      rw [if_pos hn]
      omega))
    rw [show j - 1 + 1=j by omega,show l + 1 + (j - 1)=l + j by omega] at h2
    have h4:kp C.ws (l + j)=C.ws.getD (l + j) 0:=by rw [kp,if_neg (by omega)]
    have h3:=vl_one hR (l:=l + j) (m:=m - C.ws.getD (l + j) 0) (by omega) (by rw [h4];omega)
    rw [sg,h4,if_pos (by omega),own,if_pos (by omega),show l + j + 1 - 1=l + j by omega] at h3
    rw [show l + (j + 1)=l + j + 1 by omega] at h2 ⊢
    rw [h3] at h2
    have h5:=seg_low hR hm j h0 (by omega) (fun i hi=>hb i (by omega))
    rw [ag,cst];omega
theorem first_kept (K:Nat→Bool) (l:Nat):∀ d,(∀ i,l < i→i < l + d→K i=false)∨∃ k,l < k∧k < l + d∧K k=true∧∀ i,l < i→i < k→K i=false:=by
  intro d
  induction d with
  | zero=>exact .inl (fun i h1 h2=>by omega)
  | succ d ih=>
    rcases ih with h | ⟨k,h1,h2,h3,h4⟩
    · by_cases hk:l < l + d∧K (l + d)=true
      · exact .inr ⟨l + d,hk.1,by omega,hk.2,fun i a b=>h i a b⟩
      · refine .inl fun i a b=>?_
        by_cases e:i=l + d
        · subst e
          cases h5:K (l + d) with
          | false=>rfl
          | true=>exact absurd ⟨a,h5⟩ hk
        · exact h i a (by omega)
    · exact .inr ⟨k,h1,by omega,h3,h4⟩
theorem keep_low (hR:Rec C) (K:Nat→Bool) (hb:∀ p,1≤p→p≤C.cs.length→kneed C.ws K p≤C.cap) :
    ∀ d l,C.cs.length - l=d→l < C.cs.length→(l=0∨K l=true)→bs C.ws K (l + 1)≤C.cap∧vl C l C.cs.length (C.cap - bs C.ws K (l + 1)) + agK C.cs K l≤cst C.cs l (C.cs.length - l) + agK C.cs K C.cs.length:=by
  intro d
  induction d using Nat.strongRecOn with
  | _ d ih=>
    intro l hd hln hl
    have hlk:∀ i,(∀ q,l < q→q≤l + i→K q=false)→l + i + 1≤C.cs.length→C.ws.getD (l + i + 1) 0 + sw C.ws l i + kp C.ws (l + i) + bs C.ws K (l + 1)≤C.cap:=by
      intro i hq hn
      have h1:=hb (l + i + 1) (by omega) hn
      rw [kneed,lk_seg K l hl i hq,show l + i + 1 - 1 - l=i by omega,show l + i + 1 - 1=l + i by omega] at h1
      have h2:=bs_seg C.ws K l i hq
      rw [show l + 1 + i=l + i + 1 by omega] at h2
      rw [h2] at h1
      omega
    have h0:=hlk 0 (fun q a b=>by omega) (by omega)
    have hkl:kp C.ws l≤bs C.ws K (l + 1):=by
      rw [kp,bs]
      split
      · omega
      · rename_i h
        rcases hl with h1 | h1
        · exact absurd h1 h
        · rw [if_pos ⟨h,h1⟩];omega
    refine ⟨by omega,?_⟩
    have hm:C.cap - bs C.ws K (l + 1) < C.cap + 1 - kp C.ws l:=by omega
    rcases first_kept K l (C.cs.length - l) with hno | ⟨k,h1,h2,h3,h4⟩
    · have e:=seg_last hR hm (C.cs.length - l) (by omega) (by omega) (fun i hi=>by
        have:=hlk i (fun q a b=>hno q a (by omega)) (by omega)
        omega)
      have e2:=agK_seg C.cs K l (C.cs.length - l) (fun i hi=>lk_seg K l hl i (fun q a b=>hno q a (by omega)))
      rw [show l + (C.cs.length - l)=C.cs.length by omega] at e e2
      omega
    · have h2':k < C.cs.length:=by omega
      obtain ⟨b1,b2⟩:=ih (C.cs.length - k) (by omega) k rfl h2' (.inr h3)
      have hbk:bs C.ws K (k + 1)=bs C.ws K (l + 1) + C.ws.getD k 0:=by
        rw [bs,if_pos ⟨by omega,h3⟩]
        have:=bs_seg C.ws K l (k - 1 - l) (fun q a b=>h4 q a (by omega))
        rw [show l + 1 + (k - 1 - l)=k by omega] at this
        rw [this]
      have e:=seg_low hR hm (k - l) (by omega) (by omega) (fun i hi=>by
        have:=hlk i (fun q a b=>h4 q a (by omega)) (by omega)
        omega)
      have e2:=agK_seg C.cs K l (k - l) (fun i hi=>lk_seg K l hl i (fun q a b=>h4 q a (by omega)))
      rw [show l + (k - l)=k by omega] at e e2
      have e3:=vl_min hR (l:=l) (r:=C.cs.length) (m:=C.cap - bs C.ws K (l + 1)) (i:=k - l - 1) (by omega) (Nat.le_refl _) hm (ned_le C l _ _ _ (fun i hi=>by
        have e4:=hlk i (fun q a b=>h4 q a (by omega)) (by omega)
        have e5:=sw_two C.ws l (show i + 1≤i + 1 by omega)
        rw [sw] at e5
        unfold stp
        rw [if_pos (show C.cs.length=C.cs.length from rfl)]
        omega))
      rw [show k - l - 1 + 1=k - l by omega,show l + 1 + (k - l - 1)=k by omega] at e3
      have e6:=cst_add C.cs l (k - l) (C.cs.length - k)
      rw [show k - l + (C.cs.length - k)=C.cs.length - l by omega,show l + (k - l)=k by omega] at e6
      rw [hbk,show C.cap - (bs C.ws K (l + 1) + C.ws.getD k 0)=C.cap - bs C.ws K (l + 1) - C.ws.getD k 0 by omega] at b2
      omega
theorem keep_all (hR:Rec C) (hn:1≤C.cs.length) (K:Nat→Bool) (hb:∀ p,1≤p→p≤C.cs.length→kneed C.ws K p≤C.cap):vl C 0 C.cs.length C.cap≤cst C.cs 0 C.cs.length + agK C.cs K C.cs.length:=by
  obtain ⟨h1,h2⟩:=keep_low hR K hb _ 0 rfl (by omega) (.inl rfl)
  simp only [bs,agK,Nat.sub_zero,Nat.add_zero,ne_eq,not_true_eq_false,false_and,if_false] at h2
  simpa using h2
theorem sw_add (ws:List Nat) (l i:Nat):∀ j,sw ws l (i + j)=sw ws l i + sw ws (l + i) j
  | 0=>rfl
  | j + 1=>by rw [← Nat.add_assoc,sw,sw,sw_add ws l i j,Nat.add_assoc l i j];omega
theorem bs_sw (ws:List Nat) (K:Nat→Bool):∀ p,bs ws K (p + 1)≤sw ws 0 p
  | 0=>by simp [bs,sw]
  | p + 1=>by
    have:=bs_sw ws K p
    rw [bs,sw,Nat.zero_add]
    split <;> omega
theorem bs_lk (ws:List Nat) (K:Nat→Bool):∀ p,bs ws K (p + 1)=bs ws K (lk K (p + 1) + 1)
  | 0=>by simp [lk]
  | p + 1=>by
    rw [lk]
    split
    · rfl
    · rename_i h
      rw [← bs_lk ws K p,bs,if_neg (fun h2=>h h2.2)];rfl
end
def tot (ws:List Nat) (f:Nat→Bool):Nat→Nat
  | 0=>0
  | n + 1=>tot ws f n + if f (n + 1)=true then ws.getD (n + 1) 0 else 0
theorem tot_congr (ws:List Nat) {f g:Nat→Bool}:∀ n,(∀ i,1≤i→i≤n→f i=g i)→tot ws f n=tot ws g n
  | 0,_=>rfl
  | n + 1,h=>by rw [tot,tot,tot_congr ws n (fun i a b=>h i a (by omega)),h (n + 1) (by omega) (by omega)]
theorem tot_on (ws:List Nat) (f:Nat→Bool) (i:Nat) (h:f i=false):∀ n,tot ws (on f i true) n=tot ws f n + if 1≤i∧i≤n then ws.getD i 0 else 0
  | 0=>by rw [if_neg (by omega)];rfl
  | n + 1=>by
    rw [tot,tot,tot_on ws f i h n]
    by_cases e:n + 1=i
    · subst e
      rw [on_same,if_pos rfl,if_neg (by omega),h,if_neg (by simp),if_pos (by omega)]
    · rw [on_ne _ _ e]
      by_cases e2:1≤i∧i≤n
      · rw [if_pos e2,if_pos (show 1≤i∧i≤n + 1 by omega)];omega
      · rw [if_neg e2,if_neg (show ¬ (1≤i∧i≤n + 1) by omega)];omega
theorem tot_off (ws:List Nat) (f:Nat→Bool) (i:Nat) (h:f i=true):∀ n,tot ws (on f i false) n + (if 1≤i∧i≤n then ws.getD i 0 else 0)=tot ws f n
  | 0=>by rw [if_neg (by omega)];rfl
  | n + 1=>by
    have ih:=tot_off ws f i h n
    rw [tot,tot]
    by_cases e:n + 1=i
    · subst e
      rw [if_neg (by omega)] at ih
      rw [on_same,if_neg (by simp),h,if_pos rfl,if_pos (by omega)];omega
    · rw [on_ne _ _ e]
      by_cases e2:1≤i∧i≤n
      · rw [if_pos e2] at ih;rw [if_pos (show 1≤i∧i≤n + 1 by omega)];omega
      · rw [if_neg e2] at ih;rw [if_neg (show ¬ (1≤i∧i≤n + 1) by omega)];omega
theorem tot_none (ws:List Nat) {f:Nat→Bool}:∀ n,(∀ i,1≤i→i≤n→f i=false)→tot ws f n=0
  | 0,_=>rfl
  | n + 1,h=>by rw [tot,tot_none ws n (fun i a b=>h i a (by omega)),h (n + 1) (by omega) (by omega)];rfl
theorem tot_tail (ws:List Nat) {f:Nat→Bool} (a:Nat):∀ j,(∀ i,a < i→i≤a + j→f i=false)→tot ws f (a + j)=tot ws f a
  | 0,_=>rfl
  | j + 1,h=>by rw [← Nat.add_assoc,tot,tot_tail ws a j (fun i x y=>h i x (by omega)),h (a + j + 1) (by omega) (by omega)];simp
theorem tot_one (ws:List Nat) {f:Nat→Bool} (p n:Nat) (h1:1≤p) (h2:p≤n) (hf:∀ i,f i=true ↔ i=p):tot ws f n=ws.getD p 0:=by
  have e:f=on (fun _=>false) p true:=by
    funext i
    by_cases e:i=p
    · subst e;rw [on_same];exact (hf i).2 rfl
    · rw [on_ne _ _ e]
      cases h:f i with
      | false=>rfl
      | true=>exact absurd ((hf i).1 h) e
  rw [e,tot_on _ _ _ rfl,tot_none _ _ (fun _ _ _=>rfl),if_pos ⟨h1,h2⟩];omega
def wrightB (n k id:Nat):Bool:=(decide (k=4) || decide (k=5)) && decide (id=0) || (decide (k=1) || decide (k=2) || decide (k=3) || decide (k=6)) && decide (1≤id) && decide (id≤n)
theorem wright_iff (n k id:Nat):wrightB n k id=true ↔ wright n k id:=by
  simp [wrightB,wright,or_assoc,and_assoc]
def wrun (ws cs:List Nat) (n cap:Nat):WS→List (Nat × Nat)→Option WS
  | s,[]=>some s
  | s,(k,id) :: l=>if (wrightB n k id && wlegal n s k id && decide (s.words + wmore ws n k id≤cap))=true then wrun ws cs n cap (wdo ws cs n s k id) l else none
theorem Runs.run {ws cs:List Nat} {n cap:Nat} {s s':WS} {l:List (Nat × Nat)} (h:Runs ws cs n cap s l s'):wrun ws cs n cap s l=some s':=by
  induction h with
  | nil s=>rfl
  | cons h1 h2 h3 h4 h5 ih=>rw [wrun,if_pos (by simp [(wright_iff _ _ _).2 h1,h2,h3]),ih]
theorem wrun_append {ws cs:List Nat} {n cap:Nat}:∀ (a b:List (Nat × Nat)) (s s':WS),wrun ws cs n cap s (a ++ b)=some s'→∃ s1,wrun ws cs n cap s a=some s1∧wrun ws cs n cap s1 b=some s'
  | [],b,s,s',h=>⟨s,rfl,h⟩
  | (k,id) :: a,b,s,s',h=>by
    simp only [List.cons_append,wrun] at h ⊢
    split at h
    · rename_i h1;rw [if_pos h1];exact wrun_append a b _ _ h
    · simp at h
structure WI (ws:List Nat) (n:Nat) (s:WS):Prop where
  n1:1≤n
  p0:s.pr 0=true
  ps:∀ i,1≤i→s.pr i=true→s.sv i=true
  g0:s.gr 0=false
  gl:∀ i,s.gr i=true→i=s.last∧s.sd=true
  l:s.sd=false→s.last=n
  ln:s.last≤n
  w:s.words=tot ws s.pr n + tot ws s.gr n
theorem WI.fits {ws:List Nat} {n:Nat} {s:WS} (h:WI ws n s) {k id:Nat} (h1:wright n k id) (h2:wlegal n s k id=true):k=3∨k=6→ws.getD id 0≤s.words:=by
  intro hk
  have hw:=h.w
  rcases hk with rfl | rfl
  · have hp:s.pr id=true:=by simpa [wlegal] using h2
    have hr:1≤id∧id≤n:=by rcases h1 with ⟨h,_⟩ | ⟨_,h⟩ <;> omega
    have:=tot_off ws s.pr id hp n
    rw [if_pos hr] at this;omega
  · have hp:s.gr id=true:=by simp [wlegal] at h2;exact h2.1.2
    have hr:1≤id∧id≤n:=by rcases h1 with ⟨h,_⟩ | ⟨_,h⟩ <;> omega
    have:=tot_off ws s.gr id hp n
    rw [if_pos hr] at this;omega
theorem WI.step {ws cs:List Nat} {n:Nat} {s:WS} (h:WI ws n s) {k id:Nat} (h1:wright n k id) (h2:wlegal n s k id=true):WI ws n (wdo ws cs n s k id):=by
  have hw:=h.w
  have hfit:=h.fits h1 h2
  have hc:k=1∨k=2∨k=3∨k=4∨k=5∨k=6:=by rcases h1 with ⟨h,_⟩ | ⟨h,_⟩ <;> omega
  rcases hc with rfl | rfl | rfl | rfl | rfl | rfl
  · have hr:1≤id∧id≤n:=by rcases h1 with ⟨h,_⟩ | ⟨_,h⟩ <;> omega
    have hsv:s.sv id=false:=by simp [wlegal] at h2;exact h2.1
    have hnp:s.pr id=false:=by
      cases e:s.pr id with
      | false=>rfl
      | true=>rw [h.ps id hr.1 e] at hsv;simp at hsv
    have ht:=tot_on ws s.pr id hnp n
    rw [if_pos hr] at ht
    refine ⟨h.n1,?_,?_,h.g0,h.gl,h.l,h.ln,?_⟩
    · simp only [wdo,true_or,if_true];rw [on_ne _ _ (by omega)];exact h.p0
    · intro i hi
      simp only [wdo,true_or,if_true]
      unfold on;split
      · intro _;rfl
      · exact h.ps i hi
    · simp only [wdo,true_or,if_true,wmore];rw [ht];omega
  · have hr:1≤id∧id≤n:=by rcases h1 with ⟨h,_⟩ | ⟨_,h⟩ <;> omega
    have hnp:s.pr id=false:=by simp [wlegal] at h2;exact h2.1.2
    have ht:=tot_on ws s.pr id hnp n
    rw [if_pos hr] at ht
    refine ⟨h.n1,?_,?_,h.g0,h.gl,h.l,h.ln,?_⟩
    · simp only [wdo,or_true,if_true];rw [on_ne _ _ (by omega)];exact h.p0
    · intro i hi
      simp only [wdo,or_true,if_true]
      unfold on;split
      · intro _;rfl
      · exact h.ps i hi
    · simp only [wdo,or_true,if_true,wmore];rw [ht];omega
  · have hr:1≤id∧id≤n:=by rcases h1 with ⟨h,_⟩ | ⟨_,h⟩ <;> omega
    have hp:s.pr id=true:=by simpa [wlegal] using h2
    have ht:=tot_off ws s.pr id hp n
    rw [if_pos hr] at ht
    refine ⟨h.n1,?_,?_,h.g0,h.gl,h.l,h.ln,?_⟩
    · simp only [wdo,Nat.reduceEqDiff,or_self,if_false,if_true];rw [on_ne _ _ (by omega)];exact h.p0
    · intro i hi
      simp only [wdo,Nat.reduceEqDiff,or_self,if_false,if_true]
      unfold on;split
      · intro h;simp at h
      · exact h.ps i hi
    · simp only [wdo,Nat.reduceEqDiff,or_self,if_false,if_true,wmore];omega
  · refine ⟨h.n1,h.p0,h.ps,h.g0,h.gl,h.l,h.ln,?_⟩
    simp only [wdo,Nat.reduceEqDiff,or_self,if_false,if_true,wmore];omega
  · have hsd:s.sd=false:=by simpa [wlegal] using h2
    have hl:=h.l hsd
    have hg:∀ i,s.gr i=false:=fun i=>by
      cases e:s.gr i with
      | false=>rfl
      | true=>rw [(h.gl i e).2] at hsd;simp at hsd
    have ht:=tot_on ws s.gr n (hg n) n
    rw [if_pos ⟨h.n1,Nat.le_refl n⟩] at ht
    refine ⟨h.n1,h.p0,h.ps,?_,?_,?_,h.ln,?_⟩
    all_goals simp only [wdo,Nat.reduceEqDiff,or_self,if_false,if_true,wmore]
    · rw [on_ne _ _ (by have:=h.n1;omega)];exact h.g0
    · intro i hi
      unfold on at hi;split at hi
      · rename_i e;rw [hl];exact ⟨e,trivial⟩
      · rw [hg i] at hi;simp at hi
    · intro hh;simp at hh
    · rw [ht];omega
  · have hr:1≤id∧id≤n:=by rcases h1 with ⟨h,_⟩ | ⟨_,h⟩ <;> omega
    have hq:id=s.last∧s.gr id=true∧s.pr (id - 1)=true:=by simp [wlegal] at h2;exact ⟨h2.1.1,h2.1.2,h2.2⟩
    have hsd:=(h.gl id hq.2.1).2
    have hg1:s.gr (id - 1)=false:=by
      cases e:s.gr (id - 1) with
      | false=>rfl
      | true=>have:=(h.gl _ e).1;omega
    have hoff:∀ n',tot ws (on (on s.gr (id - 1) (decide (1 < id))) id false) n' + (if 1≤id∧id≤n' then ws.getD id 0 else 0)=tot ws s.gr n' + (if 1 < id∧id - 1≤n' then ws.getD (id - 1) 0 else 0):=by
      intro n'
      have e1:on s.gr (id - 1) (decide (1 < id)) id=true:=by rw [on_ne _ _ (by omega)];exact hq.2.1
      rw [tot_off ws _ id e1 n']
      by_cases h1:1 < id
      · rw [decide_eq_true h1,tot_on ws _ _ hg1]
        by_cases h2:id - 1≤n'
        · rw [if_pos (show 1≤id - 1∧id - 1≤n' by omega),if_pos ⟨h1,h2⟩]
        · rw [if_neg (show ¬ (1≤id - 1∧id - 1≤n') by omega),if_neg (by omega)]
      · rw [decide_eq_false h1,if_neg (by omega)]
        refine tot_congr _ _ fun i _ _=>?_
        unfold on;split
        · rename_i e;subst e;exact hg1.symm
        · rfl
    have ht:=hoff n
    rw [if_pos hr] at ht
    refine ⟨h.n1,h.p0,h.ps,?_,?_,?_,?_,?_⟩
    all_goals simp only [wdo,Nat.reduceEqDiff,or_self,if_false,if_true,wmore]
    · unfold on;split
      · rfl
      · split
        · rename_i e;exact decide_eq_false (by omega)
        · exact h.g0
    · intro i hi
      unfold on at hi
      split at hi
      · simp at hi
      · split at hi
        · exact ⟨by omega,hsd⟩
        · exact absurd (h.gl i hi).1 (by omega)
    · intro hh;rw [hsd] at hh;simp at hh
    · have:=h.ln;omega
    · have hf:=hfit (.inr rfl)
      rw [kp]
      split
      · rename_i e;rw [if_neg (by omega)] at ht;omega
      · rw [if_pos (by omega)] at ht;omega
def prf (f:Nat→Bool):List (Nat × Nat)→(Nat→Bool)
  | []=>f
  | (k,id) :: l=>prf (if k=1∨k=2 then on f id true else if k=3 then on f id false else f) l
def kcost (cs:List Nat):List (Nat × Nat)→Nat
  | []=>0
  | (k,id) :: l=>(if k=1∨k=2 then cs.getD (id - 1) 0 else 0) + kcost cs l
theorem prf_append (f:Nat→Bool) (a b:List (Nat × Nat)):prf f (a ++ b)=prf (prf f a) b:=by
  induction a generalizing f with
  | nil=>rfl
  | cons x a ih=>obtain ⟨k,id⟩:=x;simp only [List.cons_append,prf];exact ih _
theorem kcost_append (cs:List Nat) (a b:List (Nat × Nat)):kcost cs (a ++ b)=kcost cs a + kcost cs b:=by
  induction a with
  | nil=>simp [kcost]
  | cons x a ih=>obtain ⟨k,id⟩:=x;simp only [List.cons_append,kcost,ih];omega
theorem wdo_pr (ws cs:List Nat) (n:Nat) (s:WS) (k id:Nat):(wdo ws cs n s k id).pr=if k=1∨k=2 then on s.pr id true else if k=3 then on s.pr id false else s.pr:=by
  unfold wdo
  split
  · rfl
  · split
    · rfl
    · split
      · rfl
      · split <;> rfl
theorem wdo_kost (ws cs:List Nat) (n:Nat) (s:WS) (k id:Nat):(wdo ws cs n s k id).cost=s.cost + if k=1∨k=2 then cs.getD (id - 1) 0 else 0:=by
  unfold wdo
  split
  · rfl
  · split
    · rfl
    · split
      · rfl
      · split <;> rfl
theorem wdo_peek (ws cs:List Nat) (n:Nat) (s:WS) (k id:Nat):(wdo ws cs n s k id).peak=max s.peak (s.words + wmore ws n k id):=by
  unfold wdo
  split
  · rfl
  · split
    · rfl
    · split
      · rfl
      · split <;> rfl
theorem wrun_facts {ws cs:List Nat} {n cap:Nat}:∀ (l:List (Nat × Nat)) (s s':WS),WI ws n s→wrun ws cs n cap s l=some s'→WI ws n s'∧s'.pr=prf s.pr l∧s'.cost=s.cost + kcost cs l∧(s.peak≤cap→s'.peak≤cap)
  | [],s,s',hi,h=>by simp only [wrun,Option.some.injEq] at h;subst h;exact ⟨hi,rfl,rfl,id⟩
  | (k,id) :: l,s,s',hi,h=>by
    rw [wrun] at h
    split at h
    · rename_i h1
      simp only [Bool.and_eq_true,decide_eq_true_eq] at h1
      obtain ⟨a1,a2,a3,a4⟩:=wrun_facts l _ s' (hi.step ((wright_iff _ _ _).1 h1.1.1) h1.1.2) h
      refine ⟨a1,?_,?_,?_⟩
      · rw [a2,wdo_pr];rfl
      · rw [a3,wdo_kost];simp only [kcost];omega
      · intro hp;refine a4 ?_;rw [wdo_peek];omega
    · simp at h
theorem wrun_back {ws cs:List Nat} {n cap:Nat} {a b:List (Nat × Nat)} {p:Nat} {s s':WS} (hi:WI ws n s) (h:wrun ws cs n cap s (a ++ (6,p) :: b)=some s') :
    tot ws (prf s.pr a) n + ws.getD p 0 + kp ws (p - 1)≤cap:=by
  obtain ⟨s1,h1,h2⟩:=wrun_append a _ s s' h
  obtain ⟨a1,a2,a3,a4⟩:=wrun_facts a s s1 hi h1
  rw [wrun] at h2
  split at h2
  · rename_i hc
    simp only [Bool.and_eq_true,decide_eq_true_eq] at hc
    have hr:=(wright_iff _ _ _).1 hc.1.1
    have hl:=hc.1.2
    simp [wlegal] at hl
    have hg:∀ i,s1.gr i=true ↔ i=p:=fun i=>⟨fun h=>by rw [(a1.gl i h).1,hl.1.1],fun h=>by rw [h];exact hl.1.2⟩
    have hp:1≤p∧p≤n:=by rcases hr with ⟨h,_⟩ | ⟨_,h⟩ <;> omega
    have h3:=tot_one ws p n hp.1 hp.2 hg
    have h4:=a1.w
    have h5:=hc.2
    rw [wmore,if_neg (by omega),if_neg (by omega),if_pos rfl] at h5
    rw [← a2];omega
  · simp at h2
structure LS where
  pr:Nat→Bool
  code:List (Nat × Nat)
def LS.add (s:LS) (k p:Nat):LS:=⟨s.pr,s.code ++ [(k,p)]⟩
def LS.comp (s:LS) (k p:Nat):LS:=⟨on s.pr p true,s.code ++ [(k,p)]⟩
def LS.drop (s:LS) (p:Nat):LS:=⟨on s.pr p false,s.code ++ [(3,p)]⟩
def LS.sweep (π:Nat→Nat) (f:Nat→Bool) (s:LS):Nat→LS
  | 0=>s
  | j + 1=>if (LS.sweep π f s j).pr (π (j + 1)) && f (π (j + 1)) then (LS.sweep π f s j).drop (π (j + 1)) else LS.sweep π f s j
def LS.fetch (s:LS):Nat→LS
  | 0=>s
  | q + 1=>if s.pr (q + 1) then s else (LS.fetch s q).comp 2 (q + 1)
def usr (n q:Nat):Nat:=if q < n then q + 1 else 0
def LS.start:LS:=⟨fun q=>decide (q=0),[]⟩
def LS.fwd (π:Nat→Nat) (K:Nat→Bool) (n:Nat):Nat→LS
  | 0=>LS.start
  | p + 1=>((LS.fwd π K n p).comp 1 (p + 1)).sweep π (fun q=>!K q && decide (q≠n) && decide (usr n q≤p + 1)) n
def LS.mid (π:Nat→Nat) (K:Nat→Bool) (n:Nat):LS:=(((LS.fwd π K n n).add 4 0).drop n).add 5 0
def LS.bwd (π:Nat→Nat) (K:Nat→Bool) (n:Nat):Nat→LS
  | 0=>LS.mid π K n
  | j + 1=>(((LS.bwd π K n j).fetch (n - j - 1)).add 6 (n - j)).sweep π (fun q=>!K q || decide (n - j≤usr n q)) n
def LS.low (π:Nat→Nat) (K:Nat→Bool) (n:Nat):LS:=LS.bwd π K n n
structure Perm (n:Nat) (o π:Nat→Nat):Prop where
  o0:o 0=0
  p0:π 0=0
  op:∀ p,p≤n→o p≤n∧π (o p)=p
  po:∀ i,i≤n→π i≤n∧o (π i)=i
theorem Perm.opos {n:Nat} {o π:Nat→Nat} (h:Perm n o π) {p:Nat} (h1:1≤p) (h2:p≤n):1≤o p:=by
  rcases Nat.eq_zero_or_pos (o p) with e | e
  · have:=(h.op p h2).2;rw [e,h.p0] at this;omega
  · exact e
theorem Perm.ppos {n:Nat} {o π:Nat→Nat} (h:Perm n o π) {p:Nat} (h1:1≤p) (h2:p≤n):1≤π p:=by
  rcases Nat.eq_zero_or_pos (π p) with e | e
  · have:=(h.po p h2).2;rw [e,h.o0] at this;omega
  · exact e
section
variable {n:Nat} {o π:Nat→Nat}
theorem sweep_pr (hP:Perm n o π) (f:Nat→Bool) (s:LS):∀ j,j≤n→∀ q,((∀ i,1≤i→i≤j→π i≠q)→(LS.sweep π f s j).pr q=s.pr q)∧((∃ i,1≤i∧i≤j∧π i=q)→(LS.sweep π f s j).pr q=(s.pr q && !f q))
  | 0,_,q=>⟨fun _=>rfl,fun ⟨i,h1,h2,_⟩=>by omega⟩
  | j + 1,hj,q=>by
    have ih:=sweep_pr hP f s j (by omega)
    have hno:∀ i,1≤i→i≤j→π i≠π (j + 1):=by
      intro i h1 h2 h3
      have a:=(hP.po i (by omega)).2
      have b:=(hP.po (j + 1) hj).2
      rw [h3] at a;omega
    have i0:=(ih (π (j + 1))).1 hno
    by_cases e:q=π (j + 1)
    · subst e
      refine ⟨fun h=>absurd rfl (h (j + 1) (by omega) (by omega)),fun _=>?_⟩
      rw [LS.sweep,i0]
      split
      · rename_i h
        rw [Bool.and_eq_true] at h
        rw [LS.drop,h.1,h.2];simp only;rw [on_same];rfl
      · rename_i h
        rw [i0]
        cases h1:s.pr (π (j + 1)) <;> cases h2:f (π (j + 1)) <;> simp_all
    · have hs:(LS.sweep π f s (j + 1)).pr q=(LS.sweep π f s j).pr q:=by
        rw [LS.sweep]
        split
        · rw [LS.drop];simp only;rw [on_ne _ _ e]
        · rfl
      rw [hs]
      refine ⟨fun h=>(ih q).1 (fun i a b=>h i a (by omega)),fun ⟨i,h1,h2,h3⟩=>(ih q).2 ⟨i,h1,?_,h3⟩⟩
      rcases Nat.lt_or_ge i (j + 1) with h | h
      · omega
      · obtain rfl:i=j + 1:=by omega
        exact absurd h3.symm e
theorem sweep_all (hP:Perm n o π) (f:Nat→Bool) (s:LS) (q:Nat) (hq:q≤n):(LS.sweep π f s n).pr q=if q=0 then s.pr 0 else (s.pr q && !f q):=by
  have h:=sweep_pr hP f s n (Nat.le_refl _) q
  by_cases e:q=0
  · subst e
    rw [if_pos rfl]
    exact h.1 (fun i h1 h2 h3=>by have:=hP.ppos h1 h2;omega)
  · rw [if_neg e]
    exact h.2 ⟨o q,hP.opos (by omega) hq,(hP.op q hq).1,(hP.op q hq).2⟩
def LS.ok (s:LS):Prop:=s.pr=prf (fun q=>decide (q=0)) s.code
theorem LS.ok.add {s:LS} (h:s.ok) {k p:Nat} (hk:k=4∨k=5∨k=6):(s.add k p).ok:=by
  unfold LS.ok LS.add
  rw [prf_append,← show s.pr=_ from h]
  simp only [prf]
  rw [if_neg (by omega),if_neg (by omega)]
theorem LS.ok.comp {s:LS} (h:s.ok) {k p:Nat} (hk:k=1∨k=2):(s.comp k p).ok:=by
  unfold LS.ok LS.comp
  rw [prf_append,← show s.pr=_ from h]
  simp only [prf]
  rw [if_pos hk]
theorem LS.ok.drop {s:LS} (h:s.ok) {p:Nat}:(s.drop p).ok:=by
  unfold LS.ok LS.drop
  rw [prf_append,← show s.pr=_ from h]
  simp [prf]
theorem LS.ok.sweep {s:LS} (h:s.ok) {f:Nat→Bool}:∀ j,(s.sweep π f j).ok
  | 0=>h
  | j + 1 => by rw [LS.sweep];split
                · exact (LS.ok.sweep h j).drop
                · exact LS.ok.sweep h j
theorem LS.ok.fetch {s:LS} (h:s.ok):∀ q,(s.fetch q).ok
  | 0=>h
  | q + 1 => by rw [LS.fetch];split
                · exact h
                · exact (LS.ok.fetch h q).comp (.inr rfl)
theorem LS.ok.fwd {K:Nat→Bool}:∀ p,(LS.fwd π K n p).ok
  | 0=>rfl
  | p + 1=>((LS.ok.fwd p).comp (.inl rfl)).sweep _
theorem LS.ok.mid {K:Nat→Bool}:(LS.mid π K n).ok:=(((LS.ok.fwd n).add (.inl rfl)).drop).add (.inr (.inl rfl))
theorem LS.ok.bwd {K:Nat→Bool}:∀ j,(LS.bwd π K n j).ok
  | 0=>LS.ok.mid
  | j + 1=>(((LS.ok.bwd j).fetch _).add (.inr (.inr rfl))).sweep _
theorem sweep_code (f:Nat→Bool) (s:LS):∀ j,∃ t,(s.sweep π f j).code=s.code ++ t∧t.length≤j∧∀ cs,kcost cs t=0
  | 0=>⟨[],by simp [LS.sweep],by simp,fun _=>rfl⟩
  | j + 1=>by
    obtain ⟨t,h1,h2,h3⟩:=sweep_code f s j
    rw [LS.sweep]
    split
    · refine ⟨t ++ [(3,π (j + 1))],by rw [LS.drop,h1,List.append_assoc],by simp;omega,fun cs=>?_⟩
      rw [kcost_append,h3];simp [kcost]
    · exact ⟨t,h1,by omega,h3⟩
theorem fetch_pr (s:LS) (l:Nat) (hl:s.pr l=true):∀ j,(∀ i,l < i→i≤l + j→s.pr i=false)→(∀ q,(s.fetch (l + j)).pr q=(s.pr q || (decide (l < q) && decide (q≤l + j))))∧∃ t,(s.fetch (l + j)).code=s.code ++ t∧t.length=j∧∀ cs,kcost cs t=cst cs l j
  | 0,_=>by
    have e:s.fetch l=s:=by
      cases l with
      | zero=>rfl
      | succ l=>rw [LS.fetch,if_pos hl]
    rw [Nat.add_zero,e]
    refine ⟨fun q=>?_,[],by simp,rfl,fun _=>rfl⟩
    rw [show (decide (l < q) && decide (q≤l))=false by
      rw [Bool.and_eq_false_iff,decide_eq_false_iff_not,decide_eq_false_iff_not];omega];simp
  | j + 1,h=>by
    obtain ⟨h1,t,h2,h3,h4⟩:=fetch_pr s l hl j (fun i a b=>h i a (by omega))
    have e:s.fetch (l + (j + 1))=(s.fetch (l + j)).comp 2 (l + j + 1):=by
      rw [show l + (j + 1)=(l + j) + 1 by omega,LS.fetch,if_neg (by rw [h _ (by omega) (by omega)];simp)]
    rw [e]
    refine ⟨fun q=>?_,t ++ [(2,l + j + 1)],by rw [LS.comp,h2,List.append_assoc],by simp [h3],fun cs=>?_⟩
    · unfold LS.comp on
      simp only
      split
      · rename_i e;subst e
        rw [decide_eq_true (show l < l + j + 1 by omega),decide_eq_true (show l + j + 1≤l + (j + 1) by omega)];simp
      · rename_i e
        rw [h1 q]
        congr 2
        apply decide_eq_decide.2;omega
    · rw [kcost_append,h4,cst];simp [kcost]
end
theorem tot_seg (ws:List Nat) {f:Nat→Bool} (l:Nat):∀ j,(∀ i,l < i→i≤l + j→f i=true)→tot ws f (l + j)=tot ws f l + sw ws l j
  | 0,_=>rfl
  | j + 1,h=>by
    rw [← Nat.add_assoc,tot,tot_seg ws l j (fun i a b=>h i a (by omega)),h (l + j + 1) (by omega) (by omega),if_pos rfl,sw];omega
theorem tot_bs (ws:List Nat) {f K:Nat→Bool}:∀ l,(∀ i,1≤i→i≤l→f i=K i)→tot ws f l=bs ws K (l + 1)
  | 0,_=>by simp [tot,bs]
  | l + 1,h=>by
    rw [tot,tot_bs ws l (fun i a b=>h i a (by omega)),h (l + 1) (by omega) (by omega),bs.eq_def ws K (l + 1 + 1)];simp only
    by_cases e:K (l + 1)=true
    · rw [if_pos e,if_pos ⟨by omega,e⟩]
    · rw [if_neg e,if_neg (fun h=>e h.2)]
theorem lk_kept (K:Nat→Bool):∀ p,lk K p=0∨K (lk K p)=true
  | 0=>.inl rfl
  | p + 1=>by
    rw [lk]
    split
    · rename_i h;exact .inr h
    · exact lk_kept K p
theorem lk_none (K:Nat→Bool):∀ p i,lk K p < i→i < p→K i=false
  | 0,i,_,h=>by omega
  | p + 1,i,h1,h2=>by
    rw [lk] at h1
    split at h1
    · omega
    · rename_i h
      rcases Nat.lt_or_ge i p with h3 | h3
      · exact lk_none K p i h1 h3
      · obtain rfl:i=p:=by omega
        simpa using h
section
variable {n:Nat} {o π:Nat→Nat} {K:Nat→Bool}
theorem fwd_pr (hP:Perm n o π):∀ p,p≤n→∀ q,q≤n→(LS.fwd π K n p).pr q=(decide (q=0) || decide (q=p) || (K q && decide (q≤p)))
  | 0,_,q,_=>by
    rw [LS.fwd,LS.start]
    by_cases e:q=0
    · simp [e]
    · simp [e]
  | p + 1,hp,q,hq=>by
    have ih:=fwd_pr hP p (by omega) q hq
    rw [LS.fwd,sweep_all hP _ _ q hq]
    by_cases e:q=0
    · subst e
      rw [if_pos rfl,LS.comp];simp only
      rw [on_ne _ _ (by omega),fwd_pr hP p (by omega) 0 (by omega)];simp
    · rw [if_neg e,LS.comp];simp only
      by_cases e2:q=p + 1
      · subst e2
        rw [on_same]
        have:usr n (p + 1)≤p + 1→p + 1=n:=by
          unfold usr;split <;> omega
        by_cases h1:p + 1=n
        · simp [h1]
        · have h2:¬ usr n (p + 1)≤p + 1:=fun h=>h1 (this h)
          simp [h2]
      · rw [on_ne _ _ e2,ih]
        rcases Nat.lt_or_ge q (p + 1) with h1 | h1
        · have h2:usr n q≤p + 1:=by unfold usr;split <;> omega
          have h3:q≠n:=by omega
          have h4:q≤p:=by omega
          have h5:q≤p + 1:=by omega
          cases K q <;> simp [e,e2,h2,h3,h4,h5]
        · have h3:¬ q≤p:=by omega
          have h5:¬ q≤p + 1:=by omega
          have h6:q≠p:=by omega
          simp [e,e2,h3,h5,h6]
theorem mid_pr (hP:Perm n o π) (hn:1≤n) (q:Nat) (hq:q≤n):(LS.mid π K n).pr q=(decide (q=0) || (K q && decide (q < n))):=by
  have h:=fwd_pr (K:=K) hP n (Nat.le_refl _) q hq
  rw [LS.mid,LS.add,LS.drop,LS.add]
  simp only
  by_cases e:q=n
  · subst e
    rw [on_same]
    simp
    omega
  · rw [on_ne _ _ e,h]
    have h1:q < n:=by omega
    simp [e,h1,hq]
theorem back_pr (hP:Perm n o π) (j:Nat) (hj:j < n) (ih:∀ q,q≤n→(LS.bwd π K n j).pr q=(decide (q=0) || (K q && decide (q < n - j)))) :
    (∀ q,q≤n→((LS.bwd π K n j).fetch (n - j - 1)).pr q=((decide (q=0) || (K q && decide (q < n - j))) || (decide (lk K (n - j) < q) && decide (q≤n - j - 1)))) ∧
    ∃ t,((LS.bwd π K n j).fetch (n - j - 1)).code=(LS.bwd π K n j).code ++ t∧t.length≤n∧∀ cs,kcost cs t=cst cs (lk K (n - j)) (n - j - 1 - lk K (n - j)):=by
  obtain ⟨P,hP1⟩:∃ P,n - j=P + 1:=⟨n - j - 1,by omega⟩
  rw [hP1] at ih ⊢
  have h1:=lk_le K P
  have h2:=fetch_pr (LS.bwd π K n j) (lk K (P + 1)) (by
    rw [ih _ (by omega)]
    rcases lk_kept K (P + 1) with e | e
    · rw [e];simp
    · rw [e,decide_eq_true (show lk K (P + 1) < P + 1 by omega)];simp) (P - lk K (P + 1)) (fun i a b=>by
    rw [ih _ (by omega),lk_none K (P + 1) i a (by omega)]
    simp;omega)
  rw [show lk K (P + 1) + (P - lk K (P + 1))=P by omega] at h2
  rw [show P + 1 - 1=P by omega]
  obtain ⟨h3,t,h4,h5,h6⟩:=h2
  exact ⟨fun q hq=>by rw [h3 q,ih q hq],t,h4,by omega,h6⟩
theorem bwd_pr (hP:Perm n o π) (hn:1≤n):∀ j,j≤n→∀ q,q≤n→(LS.bwd π K n j).pr q=(decide (q=0) || (K q && decide (q < n - j)))
  | 0,_,q,hq=>by rw [LS.bwd,mid_pr hP hn q hq];rfl
  | j + 1,hj,q,hq=>by
    have h1:=(back_pr hP j (by omega) (bwd_pr hP hn j (by omega))).1
    rw [LS.bwd,sweep_all hP _ _ q hq,LS.add]
    simp only
    rw [h1 0 (by omega),h1 q hq]
    by_cases e:q=0
    · subst e;simp
    · rw [if_neg e]
      by_cases e2:q < n
      · have hu:usr n q=q + 1:=by unfold usr;rw [if_pos e2]
        rw [hu]
        by_cases h3:q < n - (j + 1)
        · have a1:q < n - j:=by omega
          have a2:¬ n - j≤q + 1:=by omega
          cases K q <;> simp [e,h3,a1,a2]
        · have a2:n - j≤q + 1:=by omega
          cases K q <;> simp [e,h3,a2]
      · have a1:¬ q < n - j:=by omega
        have a2:¬ q < n - (j + 1):=by omega
        have a3:¬ q≤n - j - 1:=by omega
        cases K q <;> simp [e,a1,a2,a3]
theorem fwd_code (cs:List Nat):∀ p,kcost cs (LS.fwd π K n p).code=cst cs 0 p∧(LS.fwd π K n p).code.length≤p * (n + 1)
  | 0=>by simp [LS.fwd,LS.start,kcost,cst]
  | p + 1=>by
    obtain ⟨h1,h2⟩:=fwd_code cs p
    obtain ⟨t,h3,h4,h5⟩:=sweep_code (π:=π) (fun q=>!K q && decide (q≠n) && decide (usr n q≤p + 1)) ((LS.fwd π K n p).comp 1 (p + 1)) n
    rw [LS.fwd,h3,kcost_append,h5,LS.comp]
    simp only
    rw [kcost_append,h1,cst,Nat.succ_mul]
    refine ⟨by simp [kcost],?_⟩
    simp only [List.length_append,List.length_cons,List.length_nil];omega
theorem mid_code (cs:List Nat):kcost cs (LS.mid π K n).code=cst cs 0 n∧(LS.mid π K n).code.length≤n * (n + 1) + 3:=by
  obtain ⟨h1,h2⟩:=fwd_code (π:=π) (K:=K) (n:=n) cs n
  rw [LS.mid,LS.add,LS.drop,LS.add]
  simp only [kcost_append,h1,List.length_append,List.length_cons,List.length_nil]
  refine ⟨by simp [kcost],by omega⟩
theorem bwd_code (hP:Perm n o π) (hn:1≤n) (cs:List Nat):∀ j,j≤n→kcost cs (LS.bwd π K n j).code + agK cs K (n - j)=cst cs 0 n + agK cs K n∧(LS.bwd π K n j).code.length≤n * (n + 1) + 3 + j * (2 * n + 1)
  | 0,_=>by
    obtain ⟨h1,h2⟩:=mid_code (π:=π) (K:=K) (n:=n) cs
    rw [LS.bwd,h1];exact ⟨rfl,by omega⟩
  | j + 1,hj=>by
    obtain ⟨h1,h2⟩:=bwd_code hP hn cs j (by omega)
    obtain ⟨-,t,h3,h4,h5⟩:=back_pr (K:=K) hP j (by omega) (bwd_pr hP hn j (by omega))
    obtain ⟨t2,h6,h7,h8⟩:=sweep_code (π:=π) (fun q=>!K q || decide (n - j≤usr n q)) (((LS.bwd π K n j).fetch (n - j - 1)).add 6 (n - j)) n
    rw [LS.bwd,h6,kcost_append,h8,LS.add]
    simp only
    rw [h3,kcost_append,kcost_append,h5,Nat.succ_mul]
    refine ⟨?_,?_⟩
    · obtain ⟨P,hP1⟩:∃ P,n - j=P + 1:=⟨n - j - 1,by omega⟩
      rw [hP1,agK] at h1
      rw [hP1,show n - (j + 1)=P by omega,show P + 1 - 1=P by omega]
      simp only [kcost,Nat.reduceEqDiff,or_self,if_false];omega
    · simp only [List.length_append,List.length_cons,List.length_nil];omega
theorem low_cost (hP:Perm n o π) (hn:1≤n) (cs:List Nat):kcost cs (LS.low π K n).code=cst cs 0 n + agK cs K n:=by
  have:=(bwd_code (K:=K) hP hn cs n (Nat.le_refl _)).1
  rw [Nat.sub_self,agK] at this;exact this
theorem bwd_more (hP:Perm n o π) (hn:1≤n):∀ d j,j + d≤n→∃ b,(LS.bwd π K n (j + d)).code=(LS.bwd π K n j).code ++ b
  | 0,j,_=>⟨[],by simp⟩
  | d + 1,j,h=>by
    obtain ⟨b,hb⟩:=bwd_more hP hn d j (by omega)
    obtain ⟨-,t,h3,-,-⟩:=back_pr (K:=K) hP (j + d) (by omega) (bwd_pr hP hn (j + d) (by omega))
    obtain ⟨t2,h6,-,-⟩:=sweep_code (π:=π) (fun q=>!K q || decide (n - (j + d)≤usr n q)) (((LS.bwd π K n (j + d)).fetch (n - (j + d) - 1)).add 6 (n - (j + d))) n
    refine ⟨b ++ (t ++ ((6,n - (j + d)) :: t2)),?_⟩
    rw [← Nat.add_assoc,LS.bwd,h6,LS.add]
    simp only
    rw [h3,hb];simp
theorem low_back (hP:Perm n o π) (hn:1≤n) (ws:List Nat) (j:Nat) (hj:j < n):∃ a b,(LS.low π K n).code=a ++ (6,n - j) :: b∧tot ws (prf (fun q=>decide (q=0)) a) n=bs ws K (n - j) + sw ws (lk K (n - j)) (n - j - 1 - lk K (n - j)):=by
  have hb:=back_pr (K:=K) hP j hj (bwd_pr hP hn j (by omega))
  have hok:((LS.bwd π K n j).fetch (n - j - 1)).ok:=(LS.ok.bwd j).fetch _
  obtain ⟨b,hb2⟩:=bwd_more (K:=K) hP hn (n - (j + 1)) (j + 1) (by omega)
  obtain ⟨t2,h6,-,-⟩:=sweep_code (π:=π) (fun q=>!K q || decide (n - j≤usr n q)) (((LS.bwd π K n j).fetch (n - j - 1)).add 6 (n - j)) n
  refine ⟨((LS.bwd π K n j).fetch (n - j - 1)).code,t2 ++ b,?_,?_⟩
  · rw [show j + 1 + (n - (j + 1))=n by omega] at hb2
    rw [LS.low,hb2,LS.bwd,h6,LS.add];simp
  · rw [← show _=prf (fun q=>decide (q=0)) _ from hok]
    obtain ⟨P,hP1⟩:∃ P,n - j=P + 1:=⟨n - j - 1,by omega⟩
    rw [hP1] at hb ⊢
    rw [show P + 1 - 1=P by omega] at hb ⊢
    have hl:=lk_le K P
    have e1:=tot_tail ws (f:=((LS.bwd π K n j).fetch P).pr) P (n - P) (fun i a b=>by
      rw [hb.1 i (by omega)]
      have x1:¬ i < P + 1:=by omega
      have x2:¬ i≤P:=by omega
      have x3:i≠0:=by omega
      simp [x1,x2,x3])
    rw [show P + (n - P)=n by omega] at e1
    have e2:=tot_seg ws (f:=((LS.bwd π K n j).fetch P).pr) (lk K (P + 1)) (P - lk K (P + 1)) (fun i a b=>by
      rw [hb.1 i (by omega)]
      have x2:i≤P:=by omega
      simp [a,x2])
    rw [show lk K (P + 1) + (P - lk K (P + 1))=P by omega] at e2
    have e3:=tot_bs ws (f:=((LS.bwd π K n j).fetch P).pr) (K:=K) (lk K (P + 1)) (fun i a b=>by
      rw [hb.1 i (by omega)]
      have x1:i < P + 1:=by omega
      have x2:¬ lk K (P + 1) < i:=by omega
      have x3:i≠0:=by omega
      simp [x1,x2,x3])
    rw [e1,e2,e3,← bs_lk ws K P]
end
def WS.zero (n:Nat):WS:=⟨fun q=>decide (q=0),fun _=>false,fun _=>false,false,false,n,0,0,0⟩
theorem WI.zero (ws:List Nat) {n:Nat} (hn:1≤n):WI ws n (WS.zero n):=by
  refine ⟨hn,rfl,fun i h1 h2=>?_,rfl,fun i h=>by simp [WS.zero] at h,fun _=>rfl,Nat.le_refl _,?_⟩
  · simp [WS.zero] at h2;omega
  · rw [tot_none,tot_none]
    · rfl
    · intro i _ _;rfl
    · intro i h1 _;simp [WS.zero];omega
theorem low_law {C:Par} (hR:Rec C) (hn:1≤C.cs.length) {o π:Nat→Nat} (hP:Perm C.cs.length o π) (K:Nat→Bool) {cap:Nat} (hc:C.cap=min cap (sw C.ws 0 C.cs.length + sw C.ws 0 C.cs.length)) {s':WS}
    (h:wrun C.ws C.cs C.cs.length cap (WS.zero C.cs.length) (LS.low π K C.cs.length).code=some s') :
    vl C 0 C.cs.length C.cap≤s'.cost∧s'.cost=kcost C.cs (LS.low π K C.cs.length).code:=by
  have hf:=wrun_facts _ _ _ (WI.zero C.ws hn) h
  have e:s'.cost=kcost C.cs (LS.low π K C.cs.length).code:=by rw [hf.2.2.1];simp [WS.zero]
  refine ⟨?_,e⟩
  rw [e,low_cost hP hn]
  refine keep_all hR hn K fun p h1 h2=>?_
  obtain ⟨a,b,h3,h4⟩:=low_back (K:=K) hP hn C.ws (C.cs.length - p) (by omega)
  rw [show C.cs.length - (C.cs.length - p)=p by omega] at h3 h4
  rw [h3] at h
  have h5:=wrun_back (WI.zero C.ws hn) h
  have h6:(WS.zero C.cs.length).pr=fun q=>decide (q=0):=rfl
  rw [h6,h4] at h5
  have h7:kneed C.ws K p≤cap:=by unfold kneed;omega
  have h8:kneed C.ws K p≤sw C.ws 0 C.cs.length + sw C.ws 0 C.cs.length:=by
    obtain ⟨P,rfl⟩:∃ P,p=P + 1:=⟨p - 1,by omega⟩
    have g0:=lk_le K P
    have g1:=bs_sw C.ws K (lk K (P + 1))
    have g2:=sw_add C.ws 0 (lk K (P + 1)) (P - lk K (P + 1))
    rw [Nat.zero_add,show lk K (P + 1) + (P - lk K (P + 1))=P by omega] at g2
    have g3:=sw_mono C.ws 0 h2
    rw [sw,Nat.zero_add] at g3
    have g4:kp C.ws P≤sw C.ws 0 C.cs.length:=by
      unfold kp;split
      · omega
      · have:=sw_last C.ws 0 (j:=P) (by omega)
        rw [Nat.zero_add] at this
        have:=sw_mono C.ws 0 (show P≤C.cs.length by omega)
        omega
    have g5:=bs_lk C.ws K P
    rw [kneed,show P + 1 - 1=P by omega,g5]
    omega
  rw [hc];omega
theorem wsum_sw (ws:List Nat):∀ n,(∀ w:Nat→Nat,w 0=0→(∀ j,w (j + 1)=w j + 2 * ws.getD (j + 1) 0)→w n=sw ws 0 n + sw ws 0 n)
  | 0,w,h0,_=>by rw [h0];rfl
  | n + 1,w,h0,h1=>by rw [h1,wsum_sw ws n w h0 h1,sw,Nat.zero_add];omega
end Go.Proofs.YtnpdcjdmbkcpbaaGreat.Ins
namespace Go.Proofs.YtnpdcjdmbkcpbaaGreat.Ins
open Go.RowKit
structure SLy where
  (q gp cp gs cq gg cg gw cw gc cc gi ci go co cap:Nat)
  (ws cs:List Nat)
  (o π:Nat→Nat)
def SLy.n (L:SLy):Nat:=L.cs.length
def SLy.W (L:SLy):List Nat:=[L.q,L.gp,L.gs,L.gg]
def scells (L:SLy) (σ:WS):Array Value:=
  #[.slice (some ⟨L.gw,0,none⟩) (L.n + 1) L.cw,.slice (some ⟨L.gc,0,none⟩) (L.n + 1) L.cc,.slice (some ⟨L.gi,0,none⟩) (L.n + 1) L.ci,.slice (some ⟨L.go,0,none⟩) L.n L.co,
    .int .i64 (L.o L.n:Nat),.int .i64 L.cap,.slice (some ⟨L.gp,0,none⟩) (L.n + 1) L.cp,.slice (some ⟨L.gs,0,none⟩) (L.n + 1) L.cq,.slice (some ⟨L.gg,0,none⟩) (L.n + 1) L.cg,
    .bool σ.em,.bool σ.sd,.int .i64 ((L.n:Int) - σ.last),.int .i64 σ.words,.int .i64 σ.peak]
structure Rds (L:SLy) (w:World):Prop where
  ws:∀ p,p≤L.n→w.cell? ⟨L.gw,L.o p,none⟩=some (.int .i64 (L.ws.getD p 0:Nat))
  cs:∀ p,p < L.n→w.cell? ⟨L.gc,L.o (p + 1),none⟩=some (.int .i64 (L.cs.getD p 0:Nat))
  ins:∀ p,p < L.n→∃ g c,w.cell? ⟨L.gi,L.o (p + 1),none⟩=some (.slice (some ⟨g,0,none⟩) 1 c)∧w.cell? ⟨g,0,none⟩=some (.int .i64 (L.o p:Nat))∧g∉L.W
  od:∀ p,p < L.n→w.cell? ⟨L.go,p,none⟩=some (.int .i64 (L.o (p + 1):Nat))
  nw:L.gw∉L.W∧L.gc∉L.W∧L.gi∉L.W∧L.go∉L.W
theorem Rds.oth {L:SLy} {w w':World} {S:List Nat} (h:Rds L w) (ho:Oth S w w') (hS:∀ k,k∈S→k∈L.W):Rds L w':=by
  obtain ⟨n1,n2,n3,n4⟩:=h.nw
  refine ⟨fun p hp=>ho.cell (h.ws p hp) (fun e=>n1 (hS _ e)),fun p hp=>ho.cell (h.cs p hp) (fun e=>n2 (hS _ e)),fun p hp=>?_,fun p hp=>ho.cell (h.od p hp) (fun e=>n4 (hS _ e)),h.nw⟩
  obtain ⟨g,c,k1,k2,k3⟩:=h.ins p hp
  exact ⟨g,c,ho.cell k1 (fun e=>n3 (hS _ e)),ho.cell k2 (fun e=>k3 (hS _ e)),k3⟩
structure Stt (L:SLy) (σ:WS) (w:World):Prop where
  b:w.heap[L.q]?=some (.cells (scells L σ) 124 (0,0))
  pr:Bls L.gp (fun i=>σ.pr (L.π i)) (L.n + 1) L.cp w
  sv:Bls L.gs (fun i=>σ.sv (L.π i)) (L.n + 1) L.cq w
  gr:Bls L.gg (fun i=>σ.gr (L.π i)) (L.n + 1) L.cg w
  rd:Rds L w
  nq:L.q≠L.gp∧L.q≠L.gs∧L.q≠L.gg
  np:L.gp≠L.gs∧L.gp≠L.gg
  ns:L.gs≠L.gg
  pm:Perm L.n L.o L.π
  n1:1≤L.n∧L.n≤64
section
variable {L:SLy} {σ:WS} {w:World}
theorem Stt.at_ (h:Stt L σ w):w.cell? ⟨L.q,0,none⟩=some (.slice (some ⟨L.gw,0,none⟩) (L.n + 1) L.cw)∧w.cell? ⟨L.q,1,none⟩=some (.slice (some ⟨L.gc,0,none⟩) (L.n + 1) L.cc)∧w.cell? ⟨L.q,2,none⟩=some (.slice (some ⟨L.gi,0,none⟩) (L.n + 1) L.ci)∧w.cell? ⟨L.q,3,none⟩=some (.slice (some ⟨L.go,0,none⟩) L.n L.co) ∧
    w.cell? ⟨L.q,4,none⟩=some (.int .i64 (L.o L.n:Nat))∧w.cell? ⟨L.q,5,none⟩=some (.int .i64 L.cap)∧w.cell? ⟨L.q,6,none⟩=some (.slice (some ⟨L.gp,0,none⟩) (L.n + 1) L.cp)∧w.cell? ⟨L.q,7,none⟩=some (.slice (some ⟨L.gs,0,none⟩) (L.n + 1) L.cq)∧w.cell? ⟨L.q,8,none⟩=some (.slice (some ⟨L.gg,0,none⟩) (L.n + 1) L.cg) ∧
    w.cell? ⟨L.q,9,none⟩=some (.bool σ.em)∧w.cell? ⟨L.q,10,none⟩=some (.bool σ.sd)∧w.cell? ⟨L.q,11,none⟩=some (.int .i64 ((L.n:Int) - σ.last))∧w.cell? ⟨L.q,12,none⟩=some (.int .i64 σ.words)∧w.cell? ⟨L.q,13,none⟩=some (.int .i64 σ.peak)∧L.q < w.heap.size∧∀ j,w.frozen? ⟨L.q,j,none⟩=false:=by
  have hb:=h.b
  refine ⟨?_,?_,?_,?_,?_,?_,?_,?_,?_,?_,?_,?_,?_,?_,lt_of_block hb,fun j=>?_⟩
  any_goals (rw [World.cell?,hb];rfl)
  rw [World.frozen?,hb];rfl
theorem Stt.oth {w':World} (h:Stt L σ w) (ho:Oth [] w w'):Stt L σ w':=
  ⟨ho.heap h.b (by simp),h.pr.oth ho (by simp),h.sv.oth ho (by simp),h.gr.oth ho (by simp),h.rd.oth ho (by simp),h.nq,h.np,h.ns,h.pm,h.n1⟩
theorem Stt.prAt (h:Stt L σ w) {p:Nat} (hp:p≤L.n):w.cell? ⟨L.gp,L.o p,none⟩=some (.bool (σ.pr p)):=by
  have h1:=h.pm.op p hp
  have:=h.pr.at_ (i:=L.o p) (by omega)
  rw [h1.2] at this;exact this
theorem Stt.svAt (h:Stt L σ w) {p:Nat} (hp:p≤L.n):w.cell? ⟨L.gs,L.o p,none⟩=some (.bool (σ.sv p)):=by
  have h1:=h.pm.op p hp
  have:=h.sv.at_ (i:=L.o p) (by omega)
  rw [h1.2] at this;exact this
theorem Stt.grAt (h:Stt L σ w) {p:Nat} (hp:p≤L.n):w.cell? ⟨L.gg,L.o p,none⟩=some (.bool (σ.gr p)):=by
  have h1:=h.pm.op p hp
  have:=h.gr.at_ (i:=L.o p) (by omega)
  rw [h1.2] at this;exact this
set_option maxRecDepth 100000 in
set_option maxHeartbeats 4000000 in
theorem ready_any (h:Stt L σ w) {p:Nat} (hp:p < L.n) :
    Calls Tryz.prog 97 #[.pointer (some ⟨L.q,0,none⟩),.int .i64 (L.o (p + 1):Nat)] w fun e w'=>e = .returned (.bool (σ.pr p))∧w'=w:=by
  obtain ⟨a0,a1,a2,a3,a4,a5,a6,a7,a8,a9,a10,a11,a12,a13,hq,fz⟩:=h.at_
  obtain ⟨g,c,k1,k2,-⟩:=h.rd.ins p hp
  have b1:=h.prAt (p:=p) (by omega)
  have o1:=(h.pm.op p (by omega)).1
  have o2:=(h.pm.op (p + 1) (by omega)).1
  have l1:=World.block_lt_of_cell? _ _ k1
  have l2:=World.block_lt_of_cell? _ _ k2
  have l3:=World.block_lt_of_cell? _ _ b1
  generalize L.o (p + 1)=i at k1 o2 ⊢
  generalize L.o p=j at k2 o1 b1
  generalize σ.pr p=r at b1 ⊢
  have t1:(i:Int) < (L.n:Int) + 1:=by omega
  have t2:(j:Int) < (L.n:Int) + 1:=by omega
  clear h a0 a1 a3 a4 a5 a7 a8 a9 a10 a11 a12 a13 fz
  cases r
  · go_enter Tryz.func97,Tryz.ntmps97
    go_wp2_with fail
    refine wp_loop_rounds 2 ?_
    rw [rounds_succ]
    go_wp2_with fail
    go_ret
    exact ⟨rfl,rfl⟩
  · go_enter Tryz.func97,Tryz.ntmps97
    go_wp2_with fail
    refine wp_loop_rounds 2 ?_
    rw [rounds_succ]
    go_wp2_with fail
    rw [rounds_succ]
    go_wp2_with fail
    go_ret
    exact ⟨rfl,rfl⟩
set_option maxRecDepth 100000 in
set_option maxHeartbeats 4000000 in
theorem index_nil (x:Int):Calls Tryz.prog 132 #[.slice none 0 0,.int .i64 x] w fun e w'=>e = .returned (.int .i64 (-1))∧Oth [] w w':=by
  go_enter Tryz.func132,Tryz.ntmps132
  go_wp2_with fail
  refine wp_loop_rounds 1 ?_
  rw [rounds_succ]
  go_wp2_with fail
  go_ret
  exact ⟨rfl,Oth.refl _ _⟩
set_option maxRecDepth 100000 in
set_option maxHeartbeats 4000000 in
theorem contains_nil (x:Int):Calls Tryz.prog 98 #[.slice none 0 0,.int .i64 x] w fun e w'=>e = .returned (.bool false)∧Oth [] w w':=by
  have N:=Lib.hid (index_nil (w:=w) x)
  go_enter Tryz.func98,Tryz.ntmps98
  go_wp2_with (go_at_call 132;(with_reducible refine N.out.mono ?_);rintro e w1 ⟨rfl,ho⟩)
  go_ret
  exact ⟨rfl,ho⟩
theorem info3q:(Tryz.prog.info? 3).map (fun i=>(i.zero,i.size,i.bytes))=some (some (.int .i64 0),1,8):=by kernel_rfl
theorem one_new (w:World) (a:Value) (t:TypeId):∀ j u,[a][j]?=some u→(w.alloc (.cells #[a] t)).cell? ((⟨w.heap.size,0,none⟩:Addr).add j)=some u:=by
  intro j u hj
  have h:=heap_alloc_new w (.cells #[a] t)
  match j,hj with
  | 0,hj=>rw [Addr.add_lit,World.cell?,h];exact hj
set_option maxRecDepth 100000 in
set_option maxHeartbeats 4000000 in
theorem fresh_zero (h:Stt L σ w) :
    Calls Tryz.prog 46 #[.pointer (some ⟨L.q,0,none⟩),.int .i64 (L.o 1:Nat)] w fun e w'=>e = .returned (.slice none 0 0)∧Oth [] w w':=by
  obtain ⟨a0,a1,a2,a3,a4,a5,a6,a7,a8,a9,a10,a11,a12,a13,hq,fz⟩:=h.at_
  have hn:=h.n1
  obtain ⟨g,c,k1,k2,-⟩:=h.rd.ins 0 (by omega)
  have o2:=(h.pm.op 1 (by omega)).1
  rw [h.pm.o0] at k2
  have l1:=World.block_lt_of_cell? _ _ k1
  have l2:=World.block_lt_of_cell? _ _ k2
  rw [Nat.zero_add] at k1
  generalize L.o 1=i at k1 o2 ⊢
  have t1:(i:Int) < (L.n:Int) + 1:=by omega
  clear h a0 a1 a3 a4 a5 a6 a7 a9 a10 a11 a12 a13 fz
  go_enter Tryz.func46,Tryz.ntmps46
  go_wp2_with fail
  refine wp_loop_rounds 2 ?_
  rw [rounds_succ]
  go_wp2_with fail
  rw [rounds_succ]
  go_wp2_with fail
  go_ret
  exact ⟨rfl,Oth.refl _ _⟩
set_option maxRecDepth 100000 in
set_option maxHeartbeats 4000000 in
theorem fresh_one (h:Stt L σ w) {p:Nat} (h0:1≤p) (hp:p < L.n) (hg:σ.gr p=false) :
    Calls Tryz.prog 46 #[.pointer (some ⟨L.q,0,none⟩),.int .i64 (L.o (p + 1):Nat)] w fun e w'=>∃ g c,e = .returned (.slice (some ⟨g,0,none⟩) 1 c)∧w'.cell? ⟨g,0,none⟩=some (.int .i64 (L.o p:Nat))∧w.heap.size≤g∧Oth [] w w':=by
  obtain ⟨a0,a1,a2,a3,a4,a5,a6,a7,a8,a9,a10,a11,a12,a13,hq,fz⟩:=h.at_
  obtain ⟨g,c,k1,k2,-⟩:=h.rd.ins p hp
  have b1:=h.grAt (p:=p) (by omega)
  rw [hg] at b1
  have o1:=(h.pm.op p (by omega)).1
  have o0:=h.pm.opos h0 (by omega)
  have o2:=(h.pm.op (p + 1) (by omega)).1
  have l1:=World.block_lt_of_cell? _ _ k1
  have l2:=World.block_lt_of_cell? _ _ k2
  have l3:=World.block_lt_of_cell? _ _ b1
  obtain ⟨i0,hi,hz0,hz1,hz2⟩:=info_parts' info3q
  have N:Hid (∀ w' x,Oth [] w w'→Calls Tryz.prog 98 #[.slice none 0 0,.int .i64 x] w' fun e w2=>e = .returned (.bool false)∧Oth [] w' w2):=fun w' x ho=>contains_nil x
  generalize L.o (p + 1)=i at k1 o2 ⊢
  generalize L.o p=j at k2 o1 b1 o0 ⊢
  have t1:(i:Int) < (L.n:Int) + 1:=by omega
  have t2:(j:Int) < (L.n:Int) + 1:=by omega
  have t3:¬ (j:Int)=0:=by omega
  have HN:=Lib.hid o1
  clear h a0 a1 a3 a4 a5 a6 a7 a9 a10 a11 a12 a13 fz o0
  go_enter Tryz.func46,Tryz.ntmps46
  go_wp2_with fail
  refine wp_loop_rounds 2 ?_
  rw [rounds_succ]
  go_wp2_with (first | (go_at_call 98;(with_reducible refine (N.out _ _ (Oth.refl _ _)).mono ?_);rintro e w1 ⟨rfl,ho⟩;replace ho:=Lib.hid ho) | (at_builtin;refine wpList_append_own_at _ rfl _ _ 22 rfl 0 3 i0 _ 1 8 Tryz.underlying22 hi hz0 hz1 hz2 rfl (by decide) (.slice none 0 0) 0 [] rfl ⟨rfl,.inl ⟨rfl,rfl⟩⟩ ⟨w1.heap.size,0,none⟩ 1 1 [.int .i64 j] rfl rfl (one_new _ _ _) (by intro u hu;simp at hu;subst hu;rfl) (by unfold maxLen;omega) (by omega) (by omega) ?_))
  intro v' w2 hown hgrow hx1 hx2
  have ho2:Oth [] w1 w2:=((Oth.refl _ _).alloc _).grown hgrow (fun k hk=>by simp [Value.ownBlock] at hk)
  obtain ⟨g',c',rfl,_,hR⟩:=row_of_owns hown (by omega)
  have hlt:=hR.lt
  have hgx:w1.heap.size≤g':=by simp [Value.ownBlock] at hx2;omega
  have b2:w2.cell? ⟨g',0,none⟩=some (.int .i64 j):=hR.cell rfl
  have HF:Hid (w2.cell? ⟨g',0,none⟩=some (.int .i64 j)∧w.heap.size≤g'∧Oth [] w w2):=⟨b2,Nat.le_trans ho.out.size hgx,ho.out.trans ho2 (Fr.nil _ _)⟩
  clear hown hgrow hx1 hx2 ho2 hR hgx
  go_wp2_with fail
  rw [rounds_succ]
  go_wp2_with fail
  go_ret
  exact ⟨g',c',rfl,HF.out⟩
set_option maxRecDepth 100000 in
set_option maxHeartbeats 8000000 in
theorem legal2_any (h:Stt L σ w) (hi:WI L.ws L.n σ) {k p:Nat} (hr:wright L.n k p) :
    Calls Tryz.prog 44 #[.pointer (some ⟨L.q,0,none⟩),.agg #[.int .i64 k,.int .i64 (L.o p:Nat)]] w fun e w'=>e = .returned (.bool (wlegal L.n σ k p))∧Oth [] w w':=by
  obtain ⟨a0,a1,a2,a3,a4,a5,a6,a7,a8,a9,a10,a11,a12,a13,hq,fz⟩:=h.at_
  have hn:=h.n1
  have l1:=h.pr.lt
  have l2:=h.sv.lt
  have l3:=h.gr.lt
  rcases hr with ⟨rfl | rfl,rfl⟩ | ⟨hk,i1,i2⟩
  · -- emit
    have b1:=h.prAt (p:=L.n) (by omega)
    have o1:=(h.pm.op L.n (by omega)).1
    have t1:(L.o L.n:Int) < (L.n:Int) + 1:=by omega
    rw [show wlegal L.n σ 4 0=(σ.pr L.n && !σ.em) by simp [wlegal],h.pm.o0]
    generalize σ.pr L.n=r at b1 ⊢
    generalize σ.em=em at a9 ⊢
    generalize L.o L.n=i at *
    clear h hi a0 a1 a2 a3 a5 a7 a8 a10 a11 a12 a13
    cases r <;> cases em
    all_goals
      go_enter Tryz.func44,Tryz.ntmps44
      go_wp2_with fail
      go_quiet (fail)
      go_wp2_with fail
      go_ret
      exact ⟨rfl,((Oth.refl _ _).alloc _).drewN _⟩
  · rw [show wlegal L.n σ 5 0 = !σ.sd by simp [wlegal]]
    generalize σ.sd=sd at a10 ⊢
    clear h hi a0 a1 a2 a3 a4 a5 a6 a7 a8 a9 a11 a12 a13
    cases sd
    all_goals
      go_enter Tryz.func44,Tryz.ntmps44
      go_wp2_with fail
      go_ret
      exact ⟨rfl,(Oth.refl _ _).alloc _⟩
  · obtain ⟨j,rfl⟩:∃ j,p=j + 1:=⟨p - 1,by omega⟩
    have N:Hid (∀ w',Oth [] w w'→Calls Tryz.prog 97 #[.pointer (some ⟨L.q,0,none⟩),.int .i64 (L.o (j + 1):Nat)] w' fun e w2=>e = .returned (.bool (σ.pr j))∧w2=w'):=fun w' ho=>ready_any (h.oth ho) (by omega)
    have b1:=h.prAt (p:=j + 1) (by omega)
    have c1:=h.svAt (p:=j + 1) (by omega)
    have d1:=h.grAt (p:=j + 1) (by omega)
    have o1:=(h.pm.op (j + 1) (by omega)).1
    have hgl:=hi.gl (j + 1)
    have hln:=hi.ln
    have hod:=h.rd.od j (by omega)
    have l4:=World.block_lt_of_cell? _ _ hod
    generalize hi':L.o (j + 1)=i at *
    have t1:(i:Int) < (L.n:Int) + 1:=by omega
    rcases hk with rfl | rfl | rfl | rfl
    · rw [show wlegal L.n σ 1 (j + 1)=(!σ.sv (j + 1) && σ.pr j) by simp [wlegal]]
      generalize σ.sv (j + 1)=s at c1 ⊢
      generalize σ.pr j=r at N ⊢
      clear h hi a0 a1 a2 a3 a4 a5 a6 a8 a9 a10 a11 a12 a13 hod hgl hln d1 b1
      cases s
      all_goals
        go_enter Tryz.func44,Tryz.ntmps44
        go_wp2_with (go_at_call 97;(with_reducible refine (N.out _ ((Oth.refl _ _).alloc _)).mono ?_);rintro e w1 ⟨rfl,rfl⟩)
        go_ret
        exact ⟨by simp,(Oth.refl _ _).alloc _⟩
    · rw [show wlegal L.n σ 2 (j + 1)=(σ.sv (j + 1) && !σ.pr (j + 1) && σ.pr j) by simp [wlegal]]
      generalize σ.sv (j + 1)=s at c1 ⊢
      generalize σ.pr (j + 1)=u at b1 ⊢
      generalize σ.pr j=r at N ⊢
      clear h hi a0 a1 a2 a3 a4 a5 a8 a9 a10 a11 a12 a13 hod hgl hln d1
      cases s <;> cases u
      all_goals
        go_enter Tryz.func44,Tryz.ntmps44
        go_wp2_with (go_at_call 97;(with_reducible refine (N.out _ ((Oth.refl _ _).alloc _)).mono ?_);rintro e w1 ⟨rfl,rfl⟩)
        go_ret
        exact ⟨by simp,(Oth.refl _ _).alloc _⟩
    · rw [show wlegal L.n σ 3 (j + 1)=σ.pr (j + 1) by simp [wlegal]]
      clear h hi a0 a1 a2 a3 a4 a5 a7 a8 a9 a10 a11 a12 a13 hod hgl hln d1 c1 N
      go_enter Tryz.func44,Tryz.ntmps44
      go_wp2_with fail
      go_ret
      exact ⟨rfl,(Oth.refl _ _).alloc _⟩
    · rw [show wlegal L.n σ 6 (j + 1)=(j + 1 == σ.last && σ.gr (j + 1) && σ.pr j) by simp [wlegal]]
      generalize σ.gr (j + 1)=s at d1 hgl ⊢
      generalize σ.pr j=r at N ⊢
      cases s with
      | false=>
        rw [show (j + 1 == σ.last && false && r)=false by simp]
        clear h hi a0 a1 a2 a4 a5 a6 a7 a9 a10 a12 a13 hod hgl b1 c1 N
        go_enter Tryz.func44,Tryz.ntmps44
        go_wp2_with fail
        go_quiet (fail)
        go_wp2_with fail
        go_ret
        exact ⟨rfl,((Oth.refl _ _).alloc _).drewN _⟩
      | true=>
        have hl:=(hgl rfl).1
        rw [show (j + 1 == σ.last && true && r)=r by simp [hl]]
        cases r with
        | false=>
          clear h hi a0 a1 a2 a4 a5 a6 a7 a9 a10 a12 a13 hod hgl b1 c1 hl
          go_enter Tryz.func44,Tryz.ntmps44
          go_wp2_with fail
          go_quiet ((go_at_call 97;exact Calls.quiet_of_same (N.out _ (by first | exact (Oth.refl _ _).alloc _ | exact ((Oth.refl _ _).alloc _).drew | exact ((Oth.refl _ _).alloc _).drewN _))))
          go_wp2_with fail
          go_ret
          exact ⟨rfl,((Oth.refl _ _).alloc _).drewN _⟩
        | true=>
          rw [← hl] at a11
          have t2:((L.n:Int) - ((j:Int) + 1) < (L.n:Int))=True:=eq_true (by omega)
          have t4:((0:Int) < (j:Int) + 1)=True:=eq_true (by omega)
          have e1:IntKind.i64.wrap ((L.n:Int) - 1)=(L.n:Int) - 1:=IntWalk.i64_in _ (by omega)
          have e2:IntKind.i64.wrap ((L.n:Int) - 1 - ((L.n:Int) - ((j:Int) + 1)))=(j:Int):=by rw [IntWalk.i64_in _ (by omega)];omega
          rw [Int.natCast_add,Int.natCast_one] at a11
          have t3:(j:Int) < (L.n:Int):=by omega
          clear h hi a0 a1 a2 a4 a5 a6 a7 a9 a10 a12 a13 hgl b1 c1 hl
          go_enter Tryz.func44,Tryz.ntmps44
          go_wp2_with fail
          go_quiet ((go_at_call 97;exact Calls.quiet_of_same (N.out _ (by first | exact (Oth.refl _ _).alloc _ | exact ((Oth.refl _ _).alloc _).drew | exact ((Oth.refl _ _).alloc _).drewN _))))
          go_wp2_with fail
          go_ret
          exact ⟨rfl,((Oth.refl _ _).alloc _).drewN _⟩
end
end Go.Proofs.YtnpdcjdmbkcpbaaGreat.Ins
