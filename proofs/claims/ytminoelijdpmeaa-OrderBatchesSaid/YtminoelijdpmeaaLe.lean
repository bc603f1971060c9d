/- Every step of a goroutine whose frames are of the told code. -/
import Derived.Test.YtminoelijdpmeaaLd
namespace Go.Proofs.Ytminoelijdpmeaa
namespace Lift
open Go.Conc
set_option linter.unusedSimpArgs false
section
variable {P : Program} {F : FuncId} {f' : Func} {S : FuncId → Bool}

theorem exitTo_ok {id : Nat} : ∀ {k k' : List Item}, exitTo id k = some k' → (∀ x ∈ k, okItem P S x = true) → ∀ x ∈ k', okItem P S x = true := by
  intro k
  induction k with
  | nil => intro k' h; cases h
  | cons y k ih =>
    intro k' h hk
    cases y with
    | inBlock id' =>
      simp only [exitTo] at h
      split at h
      · cases h; exact fun x hx => hk x (by simp [hx])
      · exact ih h fun x hx => hk x (by simp [hx])
    | _ => exact ih h fun x hx => hk x (by simp [hx])

theorem tame_results (fn : Func) (tmps : Array Value) : Tame P (twin P F f') Any (results fn tmps) := by
  unfold results
  refine Tame.any (tame_mapM _ (fun s => ?_) _) fun _ => trivial
  cases s with
  | tmp t => exact trivial
  | cell a t => exact Tame.any (tame_asAddr _) fun _ => tame_loadVar _ _

theorem step_run (hW : Walkable P F f' S) {fr : Frame} {cs : List Frame} {w : World} (h : OkStack P F S fr cs) (hm : fr.mode = .run) : Step1 P F f' S fr cs w := by
  obtain ⟨fn, tmps, todo, defers, mode, kind, round⟩ := fr
  have h0 := h
  obtain ⟨⟨hitems, hdefers, hkind, hround, hfn, hother⟩, hrest⟩ := h
  dsimp only at hm hdefers hkind hround hitems hfn hother
  subst hm; subst hdefers; subst hkind; subst hround
  have top : ∀ (t : Array Value) (k : List Item) (m : FrameMode), (∀ x ∈ k, okItem P S x = true) → OkFrame P F S ⟨fn, t, k, [], m, .normal, none⟩ := fun t k m hk => ⟨hk, rfl, rfl, rfl, hfn, hother⟩
  have to : ∀ k, (∀ x ∈ k, okItem P S x = true) → (∀ (Q : Program) C w, stepG Q true (Gor ⟨fn, tmps, todo, [], .run, .normal, none⟩ C) w = .go (Gor ⟨fn, tmps, k, [], .run, .normal, none⟩ C) w #[]) → Step1 P F f' S ⟨fn, tmps, todo, [], .run, .normal, none⟩ cs w := fun k hk hs =>
    .go _ cs w #[] 0 ⟨top tmps k .run hk, hrest⟩ (goes1_plain fun Q tl w _ => hs Q _ w)
  have ret : (∀ (Q : Program) C w, stepG Q true (Gor ⟨fn, tmps, todo, [], .run, .normal, none⟩ C) w = .go (Gor ⟨fn, tmps, todo, [], .returning, .normal, none⟩ C) w #[]) → Step1 P F f' S ⟨fn, tmps, todo, [], .run, .normal, none⟩ cs w := fun hs =>
    .go _ cs w #[] 0 ⟨top tmps todo .returning hitems, hrest⟩ (goes1_plain fun Q tl w _ => hs Q _ w)
  cases todo with
  | nil => exact ret fun Q C w => rfl
  | cons x k =>
    have hx := hitems x (by simp)
    have hk : ∀ y ∈ k, okItem P S y = true := fun y hy => hitems y (by simp [hy])
    cases x with
    | code c =>
      cases c with
      | skip => exact to k hk fun Q C w => rfl
      | region id ops d =>
        simp only [okItem, okCode] at hx
        have hk' : ∀ l, ∀ y ∈ Item.inRegion ops l :: k, okItem P S y = true := by
          intro l y hy
          rcases List.mem_cons.1 hy with rfl | hy
          · exact hx
          · exact hk y hy
        cases d with
        | false => exact to (.inRegion ops (List.range ops.size) :: k) (hk' _) fun Q C w => rfl
        | true =>
          obtain ⟨n, hd, htp, hal, htw, hnx, hha, hgr, hev⟩ := tame_local (P := P) (F := F) (f' := f') (Ok := Any) (choose (.order fn id)) (fun _ => trivial) w #[]
          have hrun : ∀ (Q : Program) (w : World), (choose (.order fn id)).run Q w = ((choose (.order fn id)).runT Q w #[]).1 := fun Q w => (Sem.runT_fst ..).symm
          have hs : ∀ (Q : Program) (C : List Frame) (w w' : World) (t : Nat), ((choose (.order fn id)).runT Q w #[]).1 = .ok t w' → stepG Q true (Gor ⟨fn, tmps, .code (.region id ops true) :: k, [], .run, .normal, none⟩ C) w = .go (Gor ⟨fn, tmps, .inRegion ops (Region.schedule (Q.follows .mixedOrders) ops t) :: k, [], .run, .normal, none⟩ C) w' #[] := by
            intro Q C w w' t h
            simp only [Gor, stepG, stepG.exec, hrun, h, Bool.not_true, Bool.false_eq_true, if_false]
          cases hr : ((choose (.order fn id)).runT P w #[]).1 with
          | ok t w' =>
            rw [hr] at hd htp hal hgr
            have hr' : ∀ τ d, (∀ j, j < n → τ (d + j) = w.tape (w.drawn + j)) → ((choose (.order fn id)).runT P (re w τ d) #[]).1 = .ok t (re w' τ (d + n)) := fun τ d h => by rw [hal τ d h]; rfl
            have hr'' : ∀ τ d, (∀ j, j < n → τ (d + j) = w.tape (w.drawn + j)) → ((choose (.order fn id)).runT (twin P F f') (re w τ d) #[]).1 = .ok t (re w' τ (d + n)) := fun τ d h => by
              obtain ⟨_, x⟩ := tame_local (P := P) (F := F) (f' := f') (Ok := Any) (choose (.order fn id)) (fun _ => trivial) (re w τ d) #[]
              rw [x.twin]; exact hr' τ d h
            exact .go _ cs w' #[] n ⟨top tmps _ .run (hk' _), hrest⟩ ⟨fun tl τ d h => hs P _ _ _ _ (hr' τ d h), fun tl τ d h => ⟨_, hs (twin P F f') _ _ _ _ (hr'' τ d h)⟩, hd, htp, hgr, by simp⟩
          | halt x w' =>
            refine .ends fun tl => ?_
            have hz : ((choose (.order fn id)).runT (twin P F f') w #[]).1 = .halt x w' := by rw [htw]; exact hr
            simp only [Gor, stepG, stepG.exec, hrun, hz, Bool.not_true, Bool.false_eq_true, if_false]
            exact ⟨_, _, _, rfl⟩
      | seq a b =>
        simp only [okItem, okCode, Bool.and_eq_true] at hx
        refine to (.code a :: .code b :: k) (fun y hy => ?_) fun Q C w => rfl
        rcases List.mem_cons.1 hy with rfl | hy
        · exact hx.1
        rcases List.mem_cons.1 hy with rfl | hy
        · exact hx.2
        · exact hk y hy
      | cond c a b =>
        simp only [okItem, okCode, Bool.and_eq_true] at hx
        by_cases hb : ∃ t, (Frame.mk fn tmps (.code (.cond c a b) :: k) [] .run .normal none).eval c = .bool t
        · obtain ⟨t, hb⟩ := hb
          refine to (.code (if t then a else b) :: k) (fun y hy => ?_) fun Q C w => by simp only [Gor, stepG, stepG.exec, hb]
          rcases List.mem_cons.1 hy with rfl | hy
          · cases t
            · exact hx.2
            · exact hx.1
          · exact hk y hy
        · refine .ends fun tl => ?_
          cases hv : (Frame.mk fn tmps (.code (.cond c a b) :: k) [] .run .normal none).eval c with
          | bool t => exact absurd ⟨t, hv⟩ hb
          | _ => simp only [Gor, stepG, stepG.exec, hv]; exact ⟨_, _, _, rfl⟩
      | block id c =>
        refine to (.code c :: .inBlock id :: k) (fun y hy => ?_) fun Q C w => rfl
        rcases List.mem_cons.1 hy with rfl | hy
        · exact hx
        rcases List.mem_cons.1 hy with rfl | hy
        · rfl
        · exact hk y hy
      | loop c =>
        refine to (.code c :: .inLoop c :: k) (fun y hy => ?_) fun Q C w => rfl
        rcases List.mem_cons.1 hy with rfl | hy
        · exact hx
        rcases List.mem_cons.1 hy with rfl | hy
        · exact hx
        · exact hk y hy
      | exit id =>
        cases he : exitTo id k with
        | some k' => exact to k' (exitTo_ok he hk) fun Q C w => by simp only [Gor, stepG, stepG.exec, he, Option.elim]
        | none => exact .ends fun tl => by simp only [Gor, stepG, stepG.exec, he, Option.elim]; exact ⟨_, _, _, rfl⟩
      | ret => exact ret fun Q C w => rfl
      | _ => exact absurd hx Bool.false_ne_true
    | inBlock id => exact to k hk fun Q C w => rfl
    | inLoop c =>
      refine to (.code c :: .inLoop c :: k) (fun y hy => ?_) fun Q C w => rfl
      rcases List.mem_cons.1 hy with rfl | hy
      · exact hx
      rcases List.mem_cons.1 hy with rfl | hy
      · exact hx
      · exact hk y hy
    | inRegion ops l =>
      cases l with
      | nil => exact to k hk fun Q C w => rfl
      | cons i l =>
        cases hw : ((ops[i]?).map (Region.wanted · (yielded ops tmps))).getD false with
        | false =>
          refine .go _ cs w #[] 0 ⟨h0.top.finish undef, hrest⟩ (goes1_plain fun Q tl w _ => ?_)
          simp only [Gor, stepG, stepG.exec, hw, Bool.false_eq_true, if_false]
        | true =>
          cases ho : ops[i]? with
          | none => rw [ho] at hw; cases hw
          | some o =>
            have hok : okOp P S o.op = true := by
              have hx' : (ops.all fun o => okOp P S o.op) = true := hx
              rw [Array.all_eq_true] at hx'
              obtain ⟨hlt, he⟩ := Array.getElem?_eq_some_iff.1 ho
              rw [← he]; exact hx' i hlt
            refine step_oper hW h0 (o := o) rfl hok fun Q C w => ?_
            have hw' : Region.wanted o (yielded ops tmps) = true := by rw [ho] at hw; exact hw
            simp only [Gor, stepG, stepG.exec, stepG.oper, Frame.oper?, ho, Option.map_some, Option.getD_some, hw', if_true]
    | _ => exact absurd hx Bool.false_ne_true

theorem step_ok (hW : Walkable P F f' S) {fr : Frame} {cs : List Frame} {w : World} (h : OkStack P F S fr cs) : Step1 P F f' S fr cs w := by
  cases hm : fr.mode with
  | run => exact step_run hW h hm
  | returning =>
    obtain ⟨fn, c, hfn, hb, hc⟩ := hW.body fr.fn h.top.fn h.top.other
    have hfn' : (twin P F f').funcs[fr.fn]? = some fn := (twin_funcs_ne h.top.other).trans hfn
    have hs : ∀ (Q : Program) (C : List Frame) (w : World), Q.funcs[fr.fn]? = some fn → ∀ {r : Result Value} {es : Array Event}, (results fn fr.tmps).runT Q w #[] = (r, es) → stepG Q true (Gor fr C) w = GStep.after (seen Q fr.fn es) (match r with
        | .ok v w => doReturn Q true fr C none v w
        | .halt (.stuck s) w => .ended (.stuck s (fr.pos Q)) w
        | .halt _ w => .ended (.stuck "return: the result variables cannot be read" (fr.pos Q)) w) := by
      intro Q C w hQ r es hr
      simp only [Gor, stepG, hm, unwind, h.top.defers, hQ, hr]
      cases r with
      | ok v w => rfl
      | halt x w => cases x <;> rfl
    obtain ⟨n, hd, htp, hal, htw, hnx, hha, hgr, hev⟩ := tame_local _ (tame_results (P := P) (F := F) (f' := f') fn fr.tmps) w #[]
    have alike : ∀ τ d, (results fn fr.tmps).runT (twin P F f') (re w τ d) #[] = (results fn fr.tmps).runT P (re w τ d) #[] := fun τ d => by
      obtain ⟨_, x⟩ := tame_local _ (tame_results (P := P) (F := F) (f' := f') fn fr.tmps) (re w τ d) #[]
      exact x.twin
    cases hr : (results fn fr.tmps).runT P w #[] with
    | mk r es =>
      rw [hr] at hd htp hal hgr htw hev
      cases r with
      | halt x w' =>
        refine .ends fun tl => ?_
        rw [hs _ _ _ hfn' htw]
        cases x <;> exact ⟨_, _, _, rfl⟩
      | ok v w' =>
        cases cs with
        | nil =>
          refine .leaves rfl fun c tl => ⟨c.finish v, w', seen (twin P F f') fr.fn es ++ #[], .inl ⟨v, rfl⟩, ?_⟩
          rw [hs _ _ _ hfn' htw]
          simp only [doReturn, h.top.kind]
          rfl
        | cons c cs =>
          refine .go (c.finish v) cs w' (seen P fr.fn es ++ #[]) n ⟨(h.rest c (by simp)).finish v, fun x hx => h.rest x (by simp [hx])⟩ ⟨fun tl τ d hag => ?_, fun tl τ d hag => ?_, hd, htp, hgr, fun e he => ?_⟩
          · rw [hs _ _ _ hfn (hal τ d hag)]
            simp only [doReturn, h.top.kind, List.cons_append, reR]
            rfl
          · rw [hs _ _ _ hfn' ((alike τ d).trans (hal τ d hag))]
            simp only [doReturn, h.top.kind, List.cons_append, reR]
            exact ⟨_, rfl⟩
          · rcases hev e (mem_seen (by simpa using he)) with x | x
            · simp at x
            · exact x
  | panicking chain =>
    obtain ⟨fn, c, hfn, hb, hc⟩ := hW.body fr.fn h.top.fn h.top.other
    have hfn' : (twin P F f').funcs[fr.fn]? = some fn := (twin_funcs_ne h.top.other).trans hfn
    have hs : ∀ (Q : Program) (c : Frame) (C : List Frame) (w : World), Q.funcs[fr.fn]? = some fn → stepG Q true (Gor fr (c :: C)) w = .go (Gor (c.raise chain) C) w #[] := by
      intro Q c C w hQ
      have hcat : fr.catches Q = false := by simp only [Frame.catches, hQ]
      simp only [Gor, stepG, hm, unwind, h.top.defers, hcat, Bool.false_eq_true, if_false]
    cases cs with
    | nil => exact .leaves rfl fun c tl => ⟨c.raise chain, w, #[], .inr ⟨chain, rfl⟩, hs _ _ _ _ hfn'⟩
    | cons c cs =>
      refine .go (c.raise chain) cs w #[] 0 ⟨(h.rest c (by simp)).raise chain, fun x hx => h.rest x (by simp [hx])⟩ (goes1_plain fun Q tl w hQ => ?_)
      rcases hQ with rfl | rfl
      · exact hs _ _ _ _ hfn
      · exact hs _ _ _ _ hfn'
end
end Lift
end Go.Proofs.Ytminoelijdpmeaa
