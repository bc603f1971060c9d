/- Feed's twin, alone: it does what Feed does; the call of Feed as one step of the lift. -/
import Derived.Test.YtminoelijdpmeaaLq
set_option linter.unusedSimpArgs false
namespace Go.Proofs.Ytminoelijdpmeaa
open Go.Conc Go.RowKit Lift
namespace FeedRun

theorem mkcT (w : World) (n : Nat) (hn : n ≤ 1000) : (Instr.makeChan 45 (.int .i64 n)).run Tw w = .ok (.chan (some w.heap.size)) (w.alloc (.chan n #[] false 0 0 false)) := by
  obtain ⟨i, hi, hb⟩ := bytes41
  simpa using run_makeChan (P := Tw) (w := w) (show Tw.underlying 45 = some (.chan .both 41) from Try.underlying45) (show Tw.info? 41 = some i from hi) .i64 n (by omega) (by rw [hb]; omega)
theorem mkdT (w : World) : (Instr.makeChan 46 (.int .i64 0)).run Tw w = .ok (.chan (some w.heap.size)) (w.alloc (.chan 0 #[] false 0 0 false)) := by
  obtain ⟨i, hi, hb⟩ := bytes47
  simpa using run_makeChan (P := Tw) (w := w) (show Tw.underlying 46 = some (.chan .both 47) from Try.underlying46) (show Tw.info? 47 = some i from hi) .i64 0 (by omega) (by rw [hb]; omega)

/-- The twin at its loop's head. -/
def TT (x : Value) (N n k : Nat) (j10 j11 j12 j15 j16 j17 j18 j19 j20 j21 j22 j23 cp : Value) : Array Value :=
  #[x, .pointer (some ⟨N, 0, none⟩), undef, .pointer (some ⟨N + 1 + 1, 0, none⟩), .pointer (some ⟨N + 1 + 1 + 1 + 1, 0, none⟩), undef, undef, .chan (some (N + 1)), .chan (some (N + 1 + 1 + 1)), .int .i64 k, j10, j11, j12, .int .i64 n, .bool true, j15, j16, j17, j18, j19, j20, j21, j22, j23, cp, .bool true]
def kEnd : List Item := [.inLoop fillLoop, .inBlock 0, .code ((Code.region 6 shutOps false).seq Code.ret)]

set_option maxRecDepth 100000 in
set_option maxHeartbeats 4000000 in
theorem twin_head (Q : Goroutine → World → Prop) (b : Option Addr) (n cap : Nat) (hn : n ≤ 1000) (C : List Frame) (W : World) (N : Nat) (hN : W.heap.size = N) (j15 j16 j17 j18 j19 j20 j21 j22 cp : Value)
    (h : LoneTo Tw Q (G ((base 16).at ⟨TT (.slice b n cap) N n 0 undef undef undef j15 j16 j17 j18 j19 j20 j21 j22 undef cp, []⟩ (.code fillLoop :: kEnd)) C) (wX W (.slice b n cap) (.chan n #[] false 0 0 false) (.chan 0 #[] false 0 0 false))) :
    LoneTo Tw Q (G ((base 16).at ⟨#[.slice b n cap, undef, undef, undef, undef, undef, undef, undef, undef, undef, undef, undef, undef, .int .i64 n, .bool true, j15, j16, j17, j18, j19, j20, j21, j22, undef, cp, .bool true], []⟩
      [.code ((Code.region 3 makeAll false).seq ((Code.block 0 fillLoop.loop).seq ((Code.region 6 shutOps false).seq Code.ret)))]) C) W := by
  have hmc := fun w => mkcT w n hn
  have hmd := mkdT
  refine LoneTo.goes (n := 60) ?_
  s_c stepG_seq
  s_reg
  s_op
  s_op
  s_op
  s_op
  s_op
  s_op
  s_op
  s_op
  s_c stepG_region_end
  s_c stepG_seq
  s_c stepG_block
  s_c stepG_loop
  s_stop
  subst hN
  exact h

set_option maxRecDepth 100000 in
set_option maxHeartbeats 4000000 in
theorem twin_round (Q : Goroutine → World → Prop) (a : Addr) (n cap k : Nat) (hn : n ≤ 1000) (hk : k < n) (C : List Frame) (W : World) (N : Nat) (hN : W.heap.size = N) (buf : Array Value) (hbuf : buf.size = k) (v : Value) (hab : a.block < N) (hv : W.cell? (a.add k) = some v) (j10 j11 j12 j15 j16 j17 j18 j19 j20 j21 j22 j23 cp : Value)
    (h : ∀ j10 j11 j12 j23, LoneTo Tw Q (G ((base 16).at ⟨TT (.slice (some a) n cap) N n (k + 1) j10 j11 j12 j15 j16 j17 j18 j19 j20 j21 j22 j23 cp, []⟩ (.code fillLoop :: kEnd)) C) (wX W (.slice (some a) n cap) (.chan n (buf.push v) false (k + 1) 0 false) (.chan 0 #[] false 0 0 false))) :
    LoneTo Tw Q (G ((base 16).at ⟨TT (.slice (some a) n cap) N n k j10 j11 j12 j15 j16 j17 j18 j19 j20 j21 j22 j23 cp, []⟩ (.code fillLoop :: kEnd)) C) (wX W (.slice (some a) n cap) (.chan n buf false k 0 false) (.chan 0 #[] false 0 0 false)) := by
  have hi : (k : Int) < (n : Int) := by omega
  have hcell : (wX W (.slice (some a) n cap) (.chan n buf false k 0 false) (.chan 0 #[] false 0 0 false)).cell? (a.add k) = some v := ((wX_kf hN).old _ (by rw [addr_add_block]; exact hab)).trans hv
  have hw : IntKind.i64.wrap ((k : Int) + 1) = ((k + 1 : Nat) : Int) := by rw [wrap_small _ (by omega) (by omega)]; omega
  refine LoneTo.goes (n := 60) ?_
  simp only [TT, kEnd, fillLoop]
  s_c stepG_seq
  s_reg
  s_op
  s_c stepG_region_end
  s_c stepG_seq
  s_cond true
  s_c stepG_skip
  s_reg
  s_op
  s_op
  s_stop
  refine LoneTo.step (step_lone_send_room (c := N + 1) (v := v) (z' := .tuple #[]) (cap := n) (buf := buf) (s := k) (r := 0) (tm := false) (w₁ := wX W (.slice (some a) n cap) (.chan n buf false k 0 false) (.chan 0 #[] false 0 0 false)) (stepG_comm rfl rfl (by decide) (by simp [go_sem, execOp, scase, Act.eval])) (wX_get1 hN) (by omega)) ?_
  rw [Frame.finish_at, wX_set1 hN]
  walk_nrm
  refine LoneTo.goes (n := 60) ?_
  s_op
  s_op
  s_c stepG_region_end
  s_c stepG_inLoop
  s_stop
  exact h _ _ _ _

theorem twin_rounds (Q : Goroutine → World → Prop) (b : Option Addr) (n cap : Nat) (hn : n ≤ 1000) (C : List Frame) (W : World) (N : Nat) (hN : W.heap.size = N) (vs : List Value) (hV : Vals W b n vs) (j15 j16 j17 j18 j19 j20 j21 j22 cp : Value)
    (h : ∀ j10 j11 j12 j23, LoneTo Tw Q (G ((base 16).at ⟨TT (.slice b n cap) N n n j10 j11 j12 j15 j16 j17 j18 j19 j20 j21 j22 j23 cp, []⟩ (.code fillLoop :: kEnd)) C) (wX W (.slice b n cap) (.chan n vs.toArray false n 0 false) (.chan 0 #[] false 0 0 false))) :
    ∀ r k, k + r = n → ∀ j10 j11 j12 j23, LoneTo Tw Q (G ((base 16).at ⟨TT (.slice b n cap) N n k j10 j11 j12 j15 j16 j17 j18 j19 j20 j21 j22 j23 cp, []⟩ (.code fillLoop :: kEnd)) C) (wX W (.slice b n cap) (.chan n (vs.take k).toArray false k 0 false) (.chan 0 #[] false 0 0 false)) := by
  intro r
  induction r with
  | zero =>
    intro k hr j10 j11 j12 j23
    obtain rfl : k = n := by omega
    have e : vs.take k = vs := List.take_of_length_le (by rw [hV.1]; exact Nat.le_refl _)
    rw [e]
    exact h _ _ _ _
  | succ r ih =>
    intro k hr j10 j11 j12 j23
    have hlt' : k < vs.length := by rw [hV.1]; omega
    obtain ⟨a, rfl, hv⟩ := hV.2 k vs[k] (List.getElem?_eq_getElem hlt')
    have hab : a.block < N := by
      have := cell_low hv
      rw [addr_add_block, hN] at this
      exact this
    refine twin_round Q a n cap k hn (by omega) C W N hN _ (by simp; omega) _ hab hv j10 j11 j12 j15 j16 j17 j18 j19 j20 j21 j22 j23 cp ?_
    intro j10 j11 j12 j23
    have e : (vs.take k).toArray.push vs[k] = (vs.take (k + 1)).toArray := by
      rw [List.push_toArray, List.take_succ_eq_append_getElem hlt']
    rw [e]
    exact ih (k + 1) (by omega) _ _ _ _

theorem loudT : (Tw.funcs[(base 16).fn]?).any (·.norace) = false := by kernel_rfl

set_option maxRecDepth 100000 in
set_option maxHeartbeats 4000000 in
theorem twin_end (x : Value) (n : Nat) (c : Frame) (C : List Frame) (W : World) (N : Nat) (hN : W.heap.size = N) (buf : Array Value) (j10 j11 j12 j15 j16 j17 j18 j19 j20 j21 j22 j23 cp : Value) :
    LoneTo Tw (fun g w => g = G (c.finish (.chan (some (N + 1)))) C ∧ w = wX W x (.chan n buf true n 0 false) (.chan 0 #[] true 0 0 false)) (G ((base 16).at ⟨TT x N n n j10 j11 j12 j15 j16 j17 j18 j19 j20 j21 j22 j23 cp, []⟩ (.code fillLoop :: kEnd)) (c :: C)) (wX W x (.chan n buf false n 0 false) (.chan 0 #[] false 0 0 false)) := by
  refine LoneTo.goes (n := 60) ?_
  simp only [TT, kEnd, fillLoop]
  s_c stepG_seq
  s_reg
  s_op
  s_c stepG_region_end
  s_c stepG_seq
  s_cond false
  s_exit
  s_c stepG_seq
  s_reg
  s_stop
  refine LoneTo.step (step_solo_go rfl (stepG_close (c := N + 1) rfl rfl (by decide) rfl rfl (wX_get1 hN) loudT)) ?_
  rw [wX_set1 hN]
  walk_nrm
  refine LoneTo.step (step_solo_go rfl (stepG_close (c := N + 3) rfl rfl (by decide) rfl rfl (wX_get3 hN) loudT)) ?_
  rw [wX_set3 hN]
  walk_nrm
  refine LoneTo.goes (n := 60) ?_
  s_op
  s_c stepG_region_end
  s_c stepG_ret'
  s_stop
  have hl : ∀ (T : Array Value) (v : Value) (w : World), T[2]? = some v → stepG Tw true (G { (base 16).at ⟨T, []⟩ [.code .ret] with mode := .returning } (c :: C)) w = .go (G (c.finish v) C) w #[] := by
    intro T v w hv
    simp [G, stepG, unwind, doReturn, results, Frame.at, base, Tw.func16, feed, seen, GStep.after, hv]
  refine LoneTo.step (step_solo_go rfl (hl _ (.chan (some (N + 1))) _ rfl)) ?_
  exact LoneTo.done ⟨rfl, rfl⟩

theorem vals_cell {W : World} {b : Option Addr} {n : Nat} {vs : List Value} (hV : Vals W b n vs) {i : Nat} (hi : i < n) : ∃ a v, b = some a ∧ vs[i]? = some v ∧ W.cell? (a.add i) = some v := by
  have hlt : i < vs.length := by rw [hV.1]; exact hi
  obtain ⟨a, h1, h2⟩ := hV.2 i vs[i] (List.getElem?_eq_getElem hlt)
  exact ⟨a, _, h1, List.getElem?_eq_getElem hlt, h2⟩

theorem feed_twin (args : Array Value) (W : World) (v : Value) (w' : World) (hF : FS args W v w') (c : Frame) (C : List Frame) :
    Steps Tw (lone (Frame.enter Tw 16 args .normal) (c :: C) W) (lone (c.finish v) C w') := by
  obtain ⟨b, n, cap, vs, rfl, hn, hcap, hV, rfl, rfl⟩ := hF
  have key : LoneTo Tw (fun g w => g = G (c.finish (.chan (some (W.heap.size + 1)))) C ∧ w = wX W (.slice b n cap) (.chan n vs.toArray true n 0 false) (.chan 0 #[] true 0 0 false)) (G (Frame.enter Tw 16 #[.slice b n cap] .normal) (c :: C)) W := by
    have rest : ∀ j15 j16 j17 j18 j19 j20 j21 j22 cp, LoneTo Tw (fun g w => g = G (c.finish (.chan (some (W.heap.size + 1)))) C ∧ w = wX W (.slice b n cap) (.chan n vs.toArray true n 0 false) (.chan 0 #[] true 0 0 false))
        (G ((base 16).at ⟨#[.slice b n cap, undef, undef, undef, undef, undef, undef, undef, undef, undef, undef, undef, undef, .int .i64 n, .bool true, j15, j16, j17, j18, j19, j20, j21, j22, undef, cp, .bool true], []⟩
          [.code ((Code.region 3 makeAll false).seq ((Code.block 0 fillLoop.loop).seq ((Code.region 6 shutOps false).seq Code.ret)))]) (c :: C)) W := by
      intro j15 j16 j17 j18 j19 j20 j21 j22 cp
      refine twin_head _ b n cap hn _ W _ rfl j15 j16 j17 j18 j19 j20 j21 j22 cp ?_
      exact twin_rounds _ b n cap hn _ W _ rfl vs hV j15 j16 j17 j18 j19 j20 j21 j22 cp (fun j10 j11 j12 j23 => twin_end _ n c C W _ rfl _ j10 j11 j12 j15 j16 j17 j18 j19 j20 j21 j22 j23 cp) n 0 (Nat.zero_add n) undef undef undef undef
    by_cases h0 : 0 < n
    · obtain ⟨a, v0, rfl, _, h1⟩ := vals_cell hV h0
      obtain ⟨a', v1, ha', _, h2⟩ := vals_cell hV (show n - 1 < n by omega)
      obtain rfl : a = a' := Option.some.inj ha'
      exact look4 h0 hn hcap _ a v0 v1 h1 h2 (rest _ _ _ _ _ _ _ _ _)
    · obtain rfl : n = 0 := by omega
      exact look0 _ b cap _ W (rest _ _ _ _ _ _ _ _ _)
  obtain ⟨g', w', hs, rfl, rfl⟩ := key
  exact hs

theorem feed_total (args : Array Value) (w : World) (ha : args.size = 1) : (∃ v w', FS args w v w') ∨ ∀ C, ∃ n o w', runN Tw n (lone (Frame.enter Tw 16 args .normal) C w) = .ended o w' ∧ ¬ Refused o := by
  obtain ⟨a, rfl⟩ : ∃ a, args = #[a] := by
    obtain ⟨l⟩ := args
    match l, ha with
    | [a], _ => exact ⟨a, rfl⟩
  by_cases hs : ∃ b n cap, a = .slice b n cap
  · obtain ⟨b, n, cap, rfl⟩ := hs
    by_cases hn : n ≤ 1000
    · by_cases hc : n ≤ cap
      · by_cases h0 : 0 < n
        · cases b with
          | none => exact .inr fun C => ends_of_loneTo (bad4 h0 hn hc)
          | some a =>
            cases ho : w.heap[a.block]? with
            | none => exact .inr fun C => ends_of_loneTo (bad5 h0 hn hc a ho)
            | some o =>
              by_cases hv : ∃ p u, o = .view p u
              · obtain ⟨p, u, rfl⟩ := hv
                exact .inr fun C => ends_of_loneTo (bad6 h0 hn hc a p u ho)
              · have hv' : ∀ p u, o ≠ .view p u := fun p u e => hv ⟨p, u, e⟩
                cases h1 : w.cell? (a.add 0) with
                | none => exact .inr fun C => ends_of_loneTo (bad7 h0 hn hc a o ho hv' h1)
                | some v1 =>
                  cases h2 : w.cell? (a.add (n - 1)) with
                  | none => exact .inr fun C => ends_of_loneTo (bad8 h0 hn hc a o ho hv' v1 h1 h2)
                  | some v2 =>
                    refine .inl ⟨_, _, some a, n, cap, (List.range n).map fun i => (w.cell? (a.add i)).getD undef, rfl, hn, hc, ⟨by simp, fun i v hi => ⟨a, rfl, ?_⟩⟩, rfl, rfl⟩
                    have hin : i < n := by
                      have := (List.getElem?_eq_some_iff.1 hi).1
                      simpa using this
                    have hcell : ∃ v, w.cell? (a.add i) = some v := by
                      unfold World.cell? at h1 h2 ⊢
                      rw [addr_add_block, ho] at h1 h2 ⊢
                      cases o <;> first | (simp at h1; done) | skip
                      rename_i c e f
                      simp only at h1 h2 ⊢
                      have hsp : a.spot = none := by
                        cases hsp : a.spot with
                        | none => rfl
                        | some _ => simp [Addr.add, hsp] at h1
                      have hoff : ∀ j, (a.add j).off = a.off + j := by
                        intro j; unfold Addr.add; split <;> simp_all
                      have hspj : ∀ j, (a.add j).spot.isSome = false := by
                        intro j; unfold Addr.add; split <;> simp_all
                      simp only [hspj, hoff, Bool.false_eq_true, if_false] at h1 h2 ⊢
                      have hlt := (Array.getElem?_eq_some_iff.1 h2).1
                      exact ⟨c[a.off + i]'(by omega), Array.getElem?_eq_getElem _⟩
                    obtain ⟨v', hv'⟩ := hcell
                    simp only [List.getElem?_map, List.getElem?_range hin, Option.map_some, hv', Option.getD_some, Option.some.injEq] at hi
                    rw [← hi]; exact hv'
        · obtain rfl : n = 0 := by omega
          exact .inl ⟨_, _, b, 0, cap, [], rfl, hn, hc, ⟨rfl, fun i v hi => by simp at hi⟩, rfl, rfl⟩
      · exact .inr fun C => ends_of_loneTo (bad3 b n cap hn hc C w)
    · exact .inr fun C => ends_of_loneTo (bad2 b n cap hn C w)
  · exact .inr fun C => ends_of_loneTo (bad1 a (fun b n cap e => hs ⟨b, n, cap, e⟩) C w)
end FeedRun

/-- The call of Feed as one step. -/
theorem feed_macro : Macro Try.prog 16 feed FS where
  tape := by
    rintro a w v w' ⟨b, n, cap, vs, rfl, hn, hc, hV, rfl, rfl⟩
    exact ⟨rfl, rfl, fun τ d => ⟨b, n, cap, vs, rfl, hn, hc, hV, rfl, rfl⟩⟩
  own := FeedRun.feed_own
  twin := by rw [tw_eq]; exact FeedRun.feed_twin
  total := by rw [tw_eq]; exact fun args w ha => FeedRun.feed_total args w ha
end Go.Proofs.Ytminoelijdpmeaa
