/- The walks of All and of the iterator that it hands back: it yields the entries in order. Condition: at most 1000 entries. -/
import Derived.Test.YtbjfojdhdjehpaaTt
import Derived.RangeFuncNested
import Derived.RangeFuncBound
import Derived.RangeFuncCalls
import Derived.RangeFuncLeaves
import Derived.RangeFuncWrites
import Derived.Shelf.Abstract
import Derived.Shelf.RegionOpen
import Derived.WalkKit
import Derived.OwnWalkIn
import Derived.TacticsInMore
import Derived.LoopNIn
import Derived.LoopIn
namespace Go.Proofs.Ytbjfojdhdjehpaa
open Go.RowKit Go.Shelf
set_option linter.unusedVariables false
set_option linter.unusedSimpArgs false
attribute [local go_sem] Oper.semAt_some

/-- What a round keeps: all cells but those of K. -/
structure CK (K : List Nat) (W W' : World) : Prop where
  size : W.heap.size ≤ W'.heap.size
  same : ∀ (k : Nat) (o : Obj), k ∉ K → W.heap[k]? = some o → o.isCells = true → W'.heap[k]? = some o
theorem CK.refl (K : List Nat) (W : World) : CK K W W := ⟨Nat.le_refl _, fun _ _ _ h _ => h⟩
theorem CK.trans {K : List Nat} {A B C : World} (h : CK K A B) (k : CK K B C) : CK K A C := ⟨Nat.le_trans h.size k.size, fun i o hK hi ho => k.same i o hK (h.same i o hK hi ho) ho⟩
theorem CK.book {K : List Nat} (W : World) (l : Nat) (o o' : Obj) (h : W.heap[l]? = some o) (ho : o.isCells = false) : CK K W (W.putObj l o') :=
  ⟨by simp, fun k o'' _ hk hc => by
    by_cases e : k = l
    · subst e; rw [h] at hk; cases hk; rw [ho] at hc; cases hc
    · exact (World.putObj_heap_other e).trans hk⟩
theorem Oth.ck {K : List Nat} {W W' : World} (h : Oth K W W') : CK K W W' := ⟨h.size, fun k o hK hk _ => h.heap hk hK⟩
theorem Oth.grew {W W' : World} (h : Oth [] W W') : W.grownBy W' none := ⟨h.os, h.tape, h.output, h.size, fun k hk _ => h.block k hk (by simp)⟩
theorem Row.ck {e : TypeId} {z g n cap : Nat} {xs : List Value} {w w' : World} {K : List Nat} (h : Row e z g n cap xs w) (hk : CK K w w') (hg : g ∉ K) : Row e z g n cap xs w' := by
  obtain ⟨cur, h, r⟩ := h
  exact ⟨cur, hk.same g _ hg h rfl, r⟩

theorem All_any (p : Nat) (w : World) :
    Calls Try.prog 20 #[.pointer (some ⟨p, 0, none⟩)] w fun e w' => e = .returned (.func (.func 36) #[] #[.pointer (some ⟨w.heap.size, 0, none⟩)]) ∧ w' = w.alloc (.cells #[.pointer (some ⟨p, 0, none⟩)] 32) := by
  go_enter Try.func20, Try.ntmps20
  go_wp2
  go_ret
  exact ⟨rfl, rfl⟩

set_option maxRecDepth 100000 in
set_option maxHeartbeats 4000000 in
theorem all1 (n l B p : Nat) (hn : 1 ≤ n) (K S : List Nat) (L : List (Int × ByteArray)) (h1 : L.length ≤ 1000) (J Jx : List (Int × ByteArray) → World → Prop) (W : World) (hK : ∀ k, k ∈ K → k < W.heap.size)
    (hJ : AbidesFrom W.heap.size J)
    (hY : ∀ pre x W1, J pre W1 → pre.length < L.length → YieldAt Fence.wide (n - 1) Try.prog l #[.int .i64 x.1, .string x.2] W1 fun e W' =>
      (e = .returned (.bool true) ∧ J (pre ++ [x]) W' ∧ CK K W1 W') ∨ (e = .returned (.bool false) ∧ Jx (pre ++ [x]) W'))
    (hB : W.cell? ⟨B, 0, none⟩ = some (.pointer (some ⟨p, 0, none⟩))) (ht : Tab_is p S L W) (h0 : J [] W) :
    CallsIn Fence.wide n Try.prog 36 #[.func (.yield l) #[] #[], .pointer (some ⟨B, 0, none⟩)] W fun e W' => (∃ v, e = .returned v) ∧
      ((∃ ys, ys = L ∧ J ys W') ∨ (∃ pre, pre <+: L ∧ Jx pre W')) := by
  have HC := Lib.hid (Copy_any p S L W ht h1)
  refine callsIn_of_wp Try.func36 rfl trivial ?_ rfl
  simp only [Try.ntmps36, List.size_toArray, List.length_cons, List.length_nil, Nat.reduceAdd, Nat.reduceSub, Array.replicate_succ, Array.replicate_zero, List.push_toArray, List.append_toArray, List.nil_append, List.cons_append]
  gi_wp2
  refine ⟨trivial, callsIn_wide.2 (HC.out.mono ?_)⟩
  rintro e w1 ⟨q, rfl, hnt⟩
  obtain ⟨S', ht', ho, hS'⟩ := hnt
  have hJ1 : J [] w1 := hJ _ _ _ none h0 ho.grew (by simp)
  rcases ht' with ⟨rfl, rfl, b, c, hp⟩ | ⟨h0', gp, c, g, cap, rfl, n1, n2, n3, hp, hc, hgp, hr⟩
  · have c1 : w1.cell? ⟨q, 0, none⟩ = some (.slice b 0 c) := by simp [World.cell?, hp]
    clear hp HC hY ht hB
    gi_wp2
    gi_loopw [13] (fun i wr => i = .int .i64 0 ∧ wr = w1) (fun _ _ => 0)
    case atStart => exact ⟨rfl, rfl⟩
    case round =>
      obtain ⟨rfl, rfl⟩ := hrel
      gi_wp2
      go_end0
      exact ⟨⟨_, rfl⟩, .inl ⟨_, rfl, hJ1⟩⟩
  · have c1 : w1.cell? ⟨q, 0, none⟩ = some (.slice (some ⟨gp, 0, none⟩) 1 c) := by simp [World.cell?, hp]
    have c2 : w1.cell? ⟨gp, 0, none⟩ = some (.slice (some ⟨g, 0, none⟩) L.length cap) := by simp [World.cell?, hgp]
    obtain ⟨m, hm⟩ : ∃ m, m = L.length := ⟨_, rfl⟩
    rw [← hm] at c2 hr h1 hY h0'
    have HM := Lib.hid hm
    have HR := Lib.hid hr
    have hgK : g ∉ K := fun e => by have := hK g e; have := hS' g (by simp); omega
    clear hp HC ht hB hgp hr hm hc n1 n2 n3
    gi_wp2
    gi_loopw [13] (fun i wr => (i = .int .i64 0 ∧ wr = w1) ∨ (i = .int .i64 1 ∧ J L wr)) (fun i _ => (1 - intOf i).toNat)
    case atStart => exact .inl ⟨rfl, rfl⟩
    case round =>
      rcases hrel with ⟨rfl, hw⟩ | ⟨rfl, hJL⟩
      · have hw' := hw.symm
        clear hw
        subst hw'
        gi_wp2
        gi_loopw [19] (fun i wq => ∃ k : Nat, k ≤ m ∧ i = .int .i64 k ∧ J (L.take k) wq ∧ CK K w1 wq) (fun i _ => (m - intOf i).toNat)
        case atStart => exact ⟨0, Nat.zero_le _, rfl, by simpa using hJ1, CK.refl _ _⟩
        case round =>
          obtain ⟨k, hk, rfl, hJs, hck⟩ := hrel
          by_cases hlt : k < m
          · have t1 : (k : Int) < (m : Int) := by omega
            obtain ⟨⟨a, v⟩, hav⟩ : ∃ p, L[k]? = some p := ⟨_, List.getElem?_eq_getElem (by have := HM.out; omega)⟩
            have hrow := HR.out.ck hck hgK
            have e1 : wr.cell? ⟨g, k * 2, none⟩ = some (.int .i64 a) := hrow.cell (ecs_key L k a v hav)
            have e2 : wr.cell? ⟨g, k * 2 + 1, none⟩ = some (.string v) := hrow.cell (ecs_val L k a v hav)
            have hoa : Oth [] wr (wr.alloc (.cells #[.int .i64 a, .string v] 71)) := (Oth.refl _ _).alloc _
            have hJa : J (L.take k) (wr.alloc (.cells #[.int .i64 a, .string v] 71)) := hJ _ _ _ none hJs hoa.grew (by simp)
            obtain ⟨fn, tmps, assign, body, hy, hR⟩ := hY _ (a, v) _ hJa (by rw [List.length_take]; omega)
            dsimp only at hy
            have hT : L.take (k + 1) = L.take k ++ [(a, v)] := by rw [List.take_add_one, hav]; rfl
            have HT := Lib.hid hT
            have hckW := hck.trans (hoa.mono (S' := K) (by simp)).ck
            clear hav hrow hT hJs hJa
            gi_wp2
            refine hR.mono ?_
            rintro e W3 (⟨rfl, hJ3, hk3⟩ | ⟨rfl, hJx3⟩)
            · gi_wp2
              go_roundw
              case rel => exact ⟨k + 1, by omega, by go_num, by rw [HT.out]; exact hJ3, hckW.trans hk3⟩
              case measure => simp [intOf]; omega
            · gi_wp2
              refine bodyPost_ret (results_none rfl _ _ _) rfl ?_
              exact ⟨⟨_, rfl⟩, .inr ⟨_, by rw [← HT.out]; exact List.take_prefix _ _, hJx3⟩⟩
          · obtain rfl : k = m := by omega
            have t1 : ¬ (k : Int) < (k : Int) := by omega
            have hJL : J L wr := by rw [List.take_of_length_le (by have := HM.out; omega)] at hJs; exact hJs
            gi_wp2
            go_roundw
            case rel => exact .inr ⟨by go_num, hJL⟩
            case measure => simp [intOf]
      · gi_wp2
        go_end0
        exact ⟨⟨_, rfl⟩, .inl ⟨_, rfl, hJL⟩⟩
end Go.Proofs.Ytbjfojdhdjehpaa
