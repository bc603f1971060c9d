/- From the lone walk in the twin to the run of the program: the lift, used; and how a slice of numbers that came in reads. -/
import Derived.Test.YtminoelijdpmeaaLr
import Derived.Test.YtminoelijdpmeaaOa
import Derived.Test.YtminoelijdpmeaaRows
import Derived.Conc.LeavingOf
import Derived.Conc.Holds
import Derived.ProofKit
import Derived.OpenShut
import Derived.ChangeOld
namespace Go.Proofs.Ytminoelijdpmeaa
open Go.ChangeShapes Go.WideShapes Go.ChangeAt Go.RowKit Go.Conc Lift
set_option linter.unusedVariables false

theorem law_run {f : FuncId} (hi : Try.prog.inits.idxOf? f = none) (hf : inS f = true) (hF : f ≠ 16) {args : Array Value} {W : World}
    (hc : ∀ τ e, Calls Tw f args (re W τ e) fun x w' => x = .returned (.bool true) ∧ Below W.heap.size (re W τ e) w') :
    ∃ M last o w' t', runNT Try.prog (M + 1) (solo (G (Frame.enter Try.prog f args .normal) []) W) #[] = (.ended o w', t') ∧
      runN Try.prog M (solo (G (Frame.enter Try.prog f args .normal) []) W) = .next last ∧ step Try.prog last = .ended o w' ∧ Go.Conc.Good Try.prog (fun v w' => v = .bool true ∧ Below W.heap.size W w') last o w' t' := by
  have key : Lift.Ends Try.prog (fun v w' => v = .bool true ∧ Below W.heap.size W w') (Gor (Frame.enter Try.prog f args .normal) []) W := by
    refine lift (Post := fun v w' => v = .bool true ∧ Below W.heap.size W (re w' W.tape 0)) hi walkable feed_macro ?_ hf hF ?_
    · rintro v w' τ e d ht ⟨hv, hb⟩
      exact ⟨hv, ⟨hb.os, ht, hb.output, hb.size, hb.block⟩⟩
    · intro τ e
      rw [tw_eq]
      refine (hc τ e).mono ?_
      rintro x w' ⟨rfl, hb⟩
      exact ⟨_, rfl, rfl, ⟨hb.os, rfl, hb.output, hb.size, hb.block⟩⟩
  obtain ⟨N, last, o, w', t', h1, h2, h3, h4⟩ := key #[Gor (Frame.enter Try.prog f args .normal) []] none #[] (fun _ => 0) ⟨rfl, leavers_one _ _, past_nil.mono (Nat.zero_le _)⟩
  rw [solo_eq_crowd]
  exact ⟨N, last, o, w', t', h1, h2, h3, h4⟩

/-- A slice of integers that came in, as a list. -/
theorem reads_of {H : Type} {enc : TypeId × Value → H} {W : World} {t e : TypeId} {k : IntKind} {a0 : Option Addr} {len cap : Nat} {d : DataW H} {p : List MemPlace}
    (hu : Try.prog.underlying t = some (.slice e)) (he : Try.prog.underlying e = some (.int k)) (hce : Try.prog.cellsOf e = 1)
    (h : DataW.Trod enc Try.prog W 0 (fun _ => true) true t (.slice a0 len cap) d p) : ∃ L, Reads k (.slice a0 len cap) L W ∧ L.length = len ∧ ∀ n ∈ L, (Lit.int k n).wf = true := by
  obtain ⟨fuel, hf⟩ := h
  rcases open_ints hu he hce hf with ⟨hcs, _⟩ | ⟨a, len', cap', zs, hcs, _, hl, hm, hz, _, hcell, hwz⟩
  · simp [Value.cells] at hcs
    obtain ⟨rfl, rfl, rfl⟩ := hcs
    exact ⟨[], .inl ⟨rfl, _, _, rfl⟩, rfl, by simp⟩
  · simp [Value.cells] at hcs
    obtain ⟨rfl, rfl, rfl⟩ := hcs
    simp only [if_true] at hz
    have hlen : (zs.take len).length = len := by rw [List.length_take, hz]; omega
    refine ⟨zs.take len, ?_, hlen, fun n hn => hwz n (List.mem_of_mem_take hn)⟩
    rcases Nat.eq_zero_or_pos len with rfl | h0
    · exact .inl ⟨by simp, _, _, rfl⟩
    · obtain ⟨g, off, spot⟩ := a
      have c0 := hcell 0 (by omega)
      have hsp : spot = none := by
        cases spot with
        | none => rfl
        | some x =>
          simp only [Addr.add, if_true, World.cell?] at c0
          split at c0 <;> simp at c0
      subst hsp
      have hadd : ∀ j, (⟨g, off, none⟩ : Addr).add j = ⟨g, off + j, none⟩ := by
        intro j; unfold Addr.add; split
        · subst_vars; rfl
        · rfl
      refine .inr ⟨g, off, cap, by rw [hlen], by omega, by omega, World.block_lt_of_cell? W ⟨g, off, none⟩ (by simpa [Addr.add] using c0), fun i x hi => ?_⟩
      have hil : i < len := by
        have := (List.getElem?_eq_some_iff.1 hi).1
        omega
      have := hcell i (by omega)
      rw [hadd] at this
      rw [this]
      rw [List.getElem?_take, if_pos hil] at hi
      rw [List.getD_eq_getElem?_getD, hi]; rfl
theorem wf_u64 {n : Int} (h : (Lit.int .u64 n).wf = true) : 0 ≤ n ∧ n < 18446744073709551616 := by
  simp [Lit.wf, IntKind.min, IntKind.max, IntKind.signed, IntKind.bits] at h
  omega
theorem wf_i64 {n : Int} (h : (Lit.int .i64 n).wf = true) : -9223372036854775808 ≤ n ∧ n ≤ 9223372036854775807 := by
  simp [Lit.wf, IntKind.min, IntKind.max, IntKind.signed, IntKind.bits] at h
  omega
theorem Try.own : ownKnob Try.prog.godebug = none := by kernel_rfl
theorem Try.laidOut : laidOutB Try.prog = true := by kernel_rfl
theorem Try.cells3 : Try.prog.cellsOf 3 = 1 := by kernel_rfl
theorem Try.cells41 : Try.prog.cellsOf 41 = 1 := by kernel_rfl
end Go.Proofs.Ytminoelijdpmeaa
