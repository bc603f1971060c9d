/- The walk of the iterator that All hands back: it yields the blocks in order. Condition: at most 1000 blocks. -/
import Derived.Test.YthllilkafdgheaaAta
import Derived.RangeFuncNested
import Derived.RangeFuncBound
import Derived.RangeFuncCalls
import Derived.RangeFuncLeaves
import Derived.RangeFuncWrites
import Derived.Shelf.Abstract
import Derived.Shelf.RegionOpen
import Derived.WalkKit
import Derived.OwnWalkIn
import Derived.TacticsInMore
import Derived.LoopNIn
import Derived.LoopIn
namespace Go.Proofs.Ythllilkafdgheaa
open Go.RowKit Go.Shelf
set_option linter.unusedVariables false
set_option linter.unusedSimpArgs false
attribute [local go_sem] Oper.semAt_some

/-- What a round keeps: all cells but those of K. -/
structure CK (K : List Nat) (W W' : World) : Prop where
  size : W.heap.size ≤ W'.heap.size
  same : ∀ (k : Nat) (o : Obj), k ∉ K → W.heap[k]? = some o → o.isCells = true → W'.heap[k]? = some o
theorem CK.refl (K : List Nat) (W : World) : CK K W W := ⟨Nat.le_refl _, fun _ _ _ h _ => h⟩
theorem CK.trans {K : List Nat} {A B C : World} (h : CK K A B) (k : CK K B C) : CK K A C := ⟨Nat.le_trans h.size k.size, fun i o hK hi ho => k.same i o hK (h.same i o hK hi ho) ho⟩
theorem CK.book {K : List Nat} (W : World) (l : Nat) (o o' : Obj) (h : W.heap[l]? = some o) (ho : o.isCells = false) : CK K W (W.putObj l o') :=
  ⟨by simp, fun k o'' _ hk hc => by
    by_cases e : k = l
    · subst e; rw [h] at hk; cases hk; rw [ho] at hc; cases hc
    · exact (World.putObj_heap_other e).trans hk⟩
theorem Oth.ck {K : List Nat} {W W' : World} (h : Oth K W W') : CK K W W' := ⟨h.size, fun k o hK hk _ => h.heap hk hK⟩
theorem Oth.grew {W W' : World} (h : Oth [] W W') : W.grownBy W' none := ⟨h.os, h.tape, h.output, h.size, fun k hk _ => h.block k hk (by simp)⟩
theorem owns_ck {v : Value} {b n : Nat} {xs : List Value} {w w' : World} {K : List Nat} (h : w.ownsRow b 45 3 v n xs) (hk : CK K w w') (hg : ∀ k, v.ownBlock = some k → k ∉ K) : w'.ownsRow b 45 3 v n xs := by
  obtain ⟨hl, h | ⟨g, c, cur, rfl, h6, h7, r⟩⟩ := h
  · exact ⟨hl, .inl h⟩
  · exact ⟨hl, .inr ⟨g, c, cur, rfl, h6, hk.same g _ (hg g rfl) h7 rfl, r⟩⟩

set_option maxRecDepth 100000 in
set_option maxHeartbeats 4000000 in
theorem all1 (n l B p : Nat) (hn : 1 ≤ n) (K S : List Nat) (s : St) (h1 : s.L.length ≤ 1000) (J Jx : List Blk → World → Prop) (W : World) (hK : ∀ k, k ∈ K → k < W.heap.size)
    (hJ : AbidesFrom W.heap.size J)
    (hY : ∀ pre x W1, J pre W1 → pre ++ [x] <+: s.L → YieldAt Fence.wide (n - 1) Try.prog l #[.agg #[.int .i64 (x : Blk).h, .int .i64 x.f, .int .i64 x.n]] W1 fun e W' =>
      (e = .returned (.bool true) ∧ J (pre ++ [x]) W' ∧ CK K W1 W') ∨ (e = .returned (.bool false) ∧ Jx (pre ++ [x]) W'))
    (hB : W.cell? ⟨B, 0, none⟩ = some (.pointer (some ⟨p, 0, none⟩))) (ht : Ar p S s W) (h0 : J [] W) :
    CallsIn Fence.wide n Try.prog 33 #[.func (.yield l) #[] #[], .pointer (some ⟨B, 0, none⟩)] W fun e W' => (∃ v, e = .returned v) ∧
      ((∃ ys, ys = s.L ∧ J ys W') ∨ (∃ pre, pre <+: s.L ∧ Jx pre W')) := by
  obtain ⟨cv, bv, mb, cs, hS, ha⟩ := ht
  have hc2 : W.cell? ⟨p, 2, none⟩ = some bv := ha.cell rfl
  have HC := Lib.hid (clone_blk bv s.L W ha.blocks h1)
  obtain ⟨bb, bc, hbv, _⟩ := owns_blocks ha.blocks
  subst hbv
  clear ha hS
  refine callsIn_of_wp Try.func33 rfl trivial ?_ rfl
  simp only [Try.ntmps33, List.size_toArray, List.length_cons, List.length_nil, Nat.reduceAdd, Nat.reduceSub, Array.replicate_succ, Array.replicate_zero, List.push_toArray, List.append_toArray, List.nil_append, List.cons_append]
  gi_wp2
  refine ⟨trivial, callsIn_wide.2 (HC.out.mono ?_)⟩
  rintro e w1 ⟨v', rfl, hr, ho⟩
  obtain ⟨L, hL⟩ : ∃ L, L = s.L := ⟨_, rfl⟩
  rw [← hL] at hr h1 hY ⊢
  obtain ⟨m, hm⟩ : ∃ m, m = L.length := ⟨_, rfl⟩
  have hJ1 : J [] w1 := hJ _ _ _ none h0 ho.grew (by simp)
  have hgK : ∀ k, v'.ownBlock = some k → k ∉ K := fun k hk e => by have := hK k e; have := (hr.lt k hk).1; omega
  have HR := Lib.hid hr
  have HM := Lib.hid hm
  have hv : ∃ b c, v' = .slice b m c := by
    rw [hm]
    rcases hr.2 with ⟨e1, e2⟩ | ⟨g, c, _, e1, _⟩
    · exact ⟨none, 0, by rw [e1, e2]⟩
    · exact ⟨_, c, e1⟩
  obtain ⟨b, c, rfl⟩ := hv
  rw [← hm] at h1
  have HL := Lib.hid hL
  clear hr hm HC hB hc2 hL
  gi_wp2
  gi_loopw [11] (fun i wq => ∃ k : Nat, k ≤ m ∧ i = .int .i64 k ∧ J (L.take k) wq ∧ CK K w1 wq) (fun i _ => (m - intOf i).toNat)
  case atStart => exact ⟨0, Nat.zero_le _, rfl, by simpa using hJ1, CK.refl _ _⟩
  case round =>
    obtain ⟨k, hk, rfl, hJs, hck⟩ := hrel
    by_cases hlt : k < m
    · have t1 : (k : Int) < (m : Int) := by omega
      obtain ⟨x, hx⟩ : ∃ p, L[k]? = some p := ⟨_, List.getElem?_eq_getElem (by have := HM.out; omega)⟩
      obtain ⟨g, cap, hbe, _, hrow⟩ := row_of_owns (owns_ck HR.out hck hgK) (by have := HM.out; omega)
      injection hbe with hb1 hb2 hb3
      subst hb1
      obtain ⟨xh, hxh⟩ : ∃ a, a = x.h := ⟨_, rfl⟩
      obtain ⟨xf, hxf⟩ : ∃ a, a = x.f := ⟨_, rfl⟩
      obtain ⟨xn, hxn⟩ : ∃ a, a = x.n := ⟨_, rfl⟩
      have e1 : wr.cell? ⟨g, k * 3, none⟩ = some (.int .i64 xh) := by rw [hxh]; exact hrow.cell (bcs_get L k x hx).1
      have e2 : wr.cell? ⟨g, k * 3 + 1, none⟩ = some (.int .i64 xf) := by rw [hxf]; exact hrow.cell (bcs_get L k x hx).2.1
      have e3 : wr.cell? ⟨g, k * 3 + 2, none⟩ = some (.int .i64 xn) := by rw [hxn]; exact hrow.cell (bcs_get L k x hx).2.2
      have hoa : Oth [] wr (wr.alloc (.cells #[.int .i64 xh, .int .i64 xf, .int .i64 xn] 45)) := (Oth.refl _ _).alloc _
      have hJa : J (L.take k) (wr.alloc (.cells #[.int .i64 xh, .int .i64 xf, .int .i64 xn] 45)) := hJ _ _ _ none hJs hoa.grew (by simp)
      have hT : L.take (k + 1) = L.take k ++ [x] := by rw [List.take_add_one, hx]; rfl
      obtain ⟨fn, tmps, assign, body, hy, hR⟩ := hY _ x _ hJa (by rw [← hT]; exact List.take_prefix _ _)
      rw [← hxh, ← hxf, ← hxn] at hy
      have HT := Lib.hid hT
      have hckW := hck.trans (hoa.mono (S' := K) (by simp)).ck
      clear hx hrow hT hJs hJa hxh hxf hxn hb2 hb3
      gi_wp2
      refine hR.mono ?_
      rintro e W3 (⟨rfl, hJ3, hk3⟩ | ⟨rfl, hJx3⟩)
      · gi_wp2
        go_roundw
        case rel => exact ⟨k + 1, by omega, by go_num, by rw [HT.out]; exact hJ3, hckW.trans hk3⟩
        case measure => simp [intOf]; omega
      · gi_wp2
        refine bodyPost_ret (results_none rfl _ _ _) rfl ?_
        exact ⟨⟨_, rfl⟩, .inr ⟨_, by rw [← HT.out, ← HL.out]; exact List.take_prefix _ _, hJx3⟩⟩
    · obtain rfl : k = m := by omega
      have t1 : ¬ (k : Int) < (k : Int) := by omega
      have hJL : J L wr := by rw [List.take_of_length_le (by have := HM.out; omega)] at hJs; exact hJs
      gi_wp2
      go_end0
      exact ⟨⟨_, rfl⟩, .inl (by rw [← HL.out]; exact hJL)⟩
end Go.Proofs.Ythllilkafdgheaa
