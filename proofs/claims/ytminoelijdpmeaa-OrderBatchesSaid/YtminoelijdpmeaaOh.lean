/- A region that begins with a select of one receive with a default, in a lone walk; Feed's contract in the twin. -/
import Derived.Test.YtminoelijdpmeaaLr
import Derived.Test.YtminoelijdpmeaaOg
import Derived.Deep.Cut
namespace Go.Proofs.Ytminoelijdpmeaa
open Go.RowKit Go.Conc Lift
set_option linter.unusedVariables false

theorem wp_region_select {P : Program} {id : Nat} {ops : Array Oper} {Q : Exit → Act → World → Prop} {a : Act} {w w₂ : World} {o : Oper} {l : List Oper} {ch : Operand} {el : TypeId} {z x : Value} {acts : Array MemAct}
    (hl : ops.toList = o :: l) (hw : Region.wanted o (yielded ops a.tmps) = true) (hop : o.op = .select #[⟨ch, none, el⟩] false) (hz : (zeroValue el).run P w = .ok z w)
    (hr : selRes w (a.eval ch) z = some (x, w₂, acts)) (h : wpList P ops Q l (a.put o.dst x) w₂) : (Code.region id ops false).wp P Q a w := by
  intro b k cs
  have hsz : ops.size = l.length + 1 := by rw [← Array.length_toList, hl]; rfl
  have hget : ∀ j, l[j]? = ops[1 + j]? := by
    intro j
    rw [← Array.getElem?_toList, hl, Nat.add_comm, List.getElem?_cons_succ]
  have ho : ops[0]? = some o := by rw [← Array.getElem?_toList, hl]; rfl
  have hrange : List.range ops.size = 0 :: List.range' 1 l.length := by
    rw [hsz, List.range_eq_range', List.range'_succ]
  have e1 := wpOps_eq_wpList (P := P) (ops := ops) (Q := Q) l 1 hget
  rw [← e1] at h
  obtain ⟨e, a', w', q, r⟩ := wp_ops _ _ _ h b k cs
  refine ⟨e, a', w', q, .of_steps (.head step_region ?_) r⟩
  rw [hrange]
  have hex : (execOp a.eval o).run P w = .ok (.comm #[⟨a.eval ch, none, z⟩] false .select) w := by
    unfold execOp
    simp only [hop]
    simp [hz]
  obtain ⟨es, hes⟩ : ∃ es, stepG P true (Gor (b.at a (.inRegion ops (0 :: List.range' 1 l.length) :: k)) cs) w = .comm (Gor (b.at a (.inRegion ops (0 :: List.range' 1 l.length) :: k)) cs) #[⟨a.eval ch, none, z⟩] false .select w es := by
    have h1 : stepG P true (Gor (b.at a (.inRegion ops (0 :: List.range' 1 l.length) :: k)) cs) w = stepG.apply P true (b.at a (.inRegion ops (0 :: List.range' 1 l.length) :: k)) cs none (execOp a.eval o) w := stepG_op ho hw
    obtain ⟨es, he⟩ : ∃ es, (execOp a.eval o).runT P w #[] = (.ok (.comm #[⟨a.eval ch, none, z⟩] false .select) w, es) := ⟨((execOp a.eval o).runT P w #[]).2, Prod.ext (by rw [Sem.runT_fst]; exact hex) rfl⟩
    rw [h1]
    simp only [stepG.apply, if_true, he]
    exact ⟨_, rfl⟩
  have := lone_sel hes hr
  rw [Frame.finish_at, ho] at this
  exact .one this

namespace FeedRun
set_option maxRecDepth 100000 in
set_option maxHeartbeats 4000000 in
theorem twin_stop (x : Value) (n : Nat) (C : List Frame) (W : World) (N : Nat) (hN : W.heap.size = N) (buf : Array Value) (j10 j11 j12 j15 j16 j17 j18 j19 j20 j21 j22 j23 cp : Value) :
    LoneTo Tw (fun g w => ∃ e fr, g = G fr C ∧ (e = .returned (.chan (some (N + 1))) ∧ w = wX W x (.chan n buf true n 0 false) (.chan 0 #[] true 0 0 false)) ∧ fr.fn = 16 ∧ fr.leaving Tw w e) (G ((base 16).at ⟨TT x N n n j10 j11 j12 j15 j16 j17 j18 j19 j20 j21 j22 j23 cp, []⟩ (.code fillLoop :: kEnd)) C) (wX W x (.chan n buf false n 0 false) (.chan 0 #[] false 0 0 false)) := by
  refine LoneTo.goes (n := 60) ?_
  simp only [TT, kEnd, fillLoop]
  s_c stepG_seq
  s_reg
  s_op
  s_c stepG_region_end
  s_c stepG_seq
  s_cond false
  s_exit
  s_c stepG_seq
  s_reg
  s_stop
  refine LoneTo.step (step_solo_go rfl (stepG_close (c := N + 1) rfl rfl (by decide) rfl rfl (wX_get1 hN) loudT)) ?_
  rw [wX_set1 hN]
  walk_nrm
  refine LoneTo.step (step_solo_go rfl (stepG_close (c := N + 3) rfl rfl (by decide) rfl rfl (wX_get3 hN) loudT)) ?_
  rw [wX_set3 hN]
  walk_nrm
  refine LoneTo.goes (n := 60) ?_
  s_op
  s_c stepG_region_end
  s_c stepG_ret'
  s_stop
  refine LoneTo.done ⟨_, _, rfl, ⟨rfl, rfl⟩, rfl, ?_⟩
  refine ⟨rfl, rfl, by simp [Frame.at, base], feed, Tw.func16, ?_⟩
  simp [results, feed, Frame.at]

theorem feed_calls (v : Value) (D : List Int) (w : World) (hn : D.length ≤ 1000) (hD : Reads .u64 v D w) :
    Calls Tw 16 #[v] w fun e w' => e = .returned (.chan (some (w.heap.size + 1))) ∧ w' = wX w v (.chan D.length (D.map (Value.int .u64)).toArray true D.length 0 false) (.chan 0 #[] true 0 0 false) := by
  obtain ⟨b, n, cap, rfl, hnl, hcap, hV⟩ : ∃ b n cap, v = .slice b n cap ∧ n = D.length ∧ n ≤ cap ∧ Vals w b n (D.map (Value.int .u64)) := by
    rcases hD with ⟨rfl, b, cap, rfl⟩ | ⟨g, off, cap, rfl, h0, hcap, hg, hc⟩
    · exact ⟨b, 0, cap, rfl, rfl, Nat.zero_le _, rfl, fun i v hi => by simp at hi⟩
    · refine ⟨_, _, cap, rfl, rfl, hcap, by simp, fun i v hi => ⟨_, rfl, ?_⟩⟩
      simp only [List.getElem?_map, Option.map_eq_some_iff] at hi
      obtain ⟨x, hx, rfl⟩ := hi
      have e : (⟨g, off, none⟩ : Addr).add i = ⟨g, off + i, none⟩ := by unfold Addr.add; split <;> simp_all
      rw [e]; exact hc i x hx
  rw [← hnl]
  have hn' : n ≤ 1000 := by omega
  refine calls_of_loneTo fun C => ?_
  have rest : ∀ j15 j16 j17 j18 j19 j20 j21 j22 cp, LoneTo Tw (fun g w' => ∃ e fr, g = G fr C ∧ (e = .returned (.chan (some (w.heap.size + 1))) ∧ w' = wX w (.slice b n cap) (.chan n (D.map (Value.int .u64)).toArray true n 0 false) (.chan 0 #[] true 0 0 false)) ∧ fr.fn = 16 ∧ fr.leaving Tw w' e)
      (G ((base 16).at ⟨#[.slice b n cap, undef, undef, undef, undef, undef, undef, undef, undef, undef, undef, undef, undef, .int .i64 n, .bool true, j15, j16, j17, j18, j19, j20, j21, j22, undef, cp, .bool true], []⟩
        [.code ((Code.region 3 makeAll false).seq ((Code.block 0 fillLoop.loop).seq ((Code.region 6 shutOps false).seq Code.ret)))]) C) w := by
    intro j15 j16 j17 j18 j19 j20 j21 j22 cp
    refine twin_head _ b n cap hn' _ w _ rfl j15 j16 j17 j18 j19 j20 j21 j22 cp ?_
    exact twin_rounds _ b n cap hn' _ w _ rfl _ hV j15 j16 j17 j18 j19 j20 j21 j22 cp (fun j10 j11 j12 j23 => twin_stop _ n C w _ rfl _ j10 j11 j12 j15 j16 j17 j18 j19 j20 j21 j22 j23 cp) n 0 (Nat.zero_add n) undef undef undef undef
  by_cases h0 : 0 < n
  · obtain ⟨a, v0, rfl, _, h1⟩ := vals_cell hV h0
    obtain ⟨a', v1, ha', _, h2⟩ := vals_cell hV (show n - 1 < n by omega)
    obtain rfl : a = a' := Option.some.inj ha'
    exact look4 h0 hn' hcap _ a v0 v1 h1 h2 (rest _ _ _ _ _ _ _ _ _)
  · obtain rfl : n = 0 := by omega
    exact look0 _ b cap _ w (rest _ _ _ _ _ _ _ _ _)
end FeedRun
end Go.Proofs.Ytminoelijdpmeaa
