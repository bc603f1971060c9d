/- The walks of athanorlaw19.pairs and athanorref19.Walk: the reference answers what the plain traversal answers. -/
import Derived.Test.YthbdhcbdhcgkfaaWl
namespace Go.Proofs.Ythbdhcbdhcgkfaa
open Go.RowKit
set_option linter.unusedVariables false

theorem Try.info49 : (Try.prog.info? 49).map (fun i => (i.zero, i.size, i.bytes)) = some (some (.agg #[.int .i64 0, .int .i64 0]), 2, 16) := by kernel_rfl

set_option maxHeartbeats 800000 in
theorem pairs_any (v : Value) (acts : List (Int × Int)) (w : World) (hr : ReadsActs v acts w) (hlen : acts.length ≤ 1000000) :
    Calls Try.prog 15 #[v] w fun e w' => ∃ v', e = .returned v' ∧ ReadsActs v' acts w' ∧ Below w.heap.size w w' := by
  obtain ⟨i0, hi, hz0, hz1, hz2⟩ := info_parts Try.info49
  obtain ⟨a0, cap, hv⟩ : ∃ a0 cap, v = .slice a0 acts.length cap := by
    rcases hr with ⟨rfl, a, cap, rfl⟩ | ⟨g, off, cap, rfl, _⟩
    · exact ⟨a, cap, rfl⟩
    · exact ⟨_, _, rfl⟩
  subst hv
  go_enter Try.func15, Try.ntmps15
  go_wp2_with fail
  go_loopw [3, 8] (fun x i wr => ∃ k : Nat, k ≤ acts.length ∧ i = .int .i64 k ∧ wr.ownsRow w.heap.size 49 2 x k (actCells (acts.take k)) ∧ Below w.heap.size w wr) (fun _ i _ => acts.length - (intOf i).toNat)
  case atStart => exact ⟨0, by omega, rfl, World.ownsRow_nil _ _ _ _, Below.refl _ _⟩
  case round =>
    obtain ⟨k, hk, rfl, hown, hbk⟩ := hrel
    have hsz := hbk.size
    by_cases hlt : k < acts.length
    · rcases hr with ⟨rfl, _⟩ | ⟨g, off, cap', hv, hgl, hcell⟩
      · simp at hlt
      have hv' : a0 = some ⟨g, off, none⟩ := by injection hv
      subst hv'
      obtain ⟨⟨kk, aa⟩, hka⟩ : ∃ x, acts[k]? = some x := ⟨_, List.getElem?_eq_getElem hlt⟩
      obtain ⟨q1, q2⟩ := hcell k kk aa hka
      have q3 : wr.cell? ⟨g, off + k * 2, none⟩ = some (.int .i64 kk) := by rw [hbk.cell hgl]; exact q1
      have q4 : wr.cell? ⟨g, off + k * 2 + 1, none⟩ = some (.int .i64 aa) := by rw [hbk.cell hgl]; exact q2
      have HKA := Lib.hid hka
      clear q1 q2 hcell hv hka
      go_wp2_with (at_builtin; refine wpList_append_own _ rfl _ _ 32 rfl w.heap.size 49 i0 _ 2 16 Try.underlying32 hi hz0 hz1 hz2 rfl (by decide) _ _ _ rfl ((hown.alloc _).alloc _) ⟨wr.heap.size + 1, 0, none⟩ 1 1 [.int .i64 kk, .int .i64 aa] rfl rfl ?c1 ?c2 ?c3 ?c4 ?c5 ?_)
      case c1 =>
        intro j u hu
        match j with
        | 0 => simp at hu; subst hu; simp [Addr.add]
        | 1 => simp at hu; subst hu; simp [Addr.add]
        | j + 2 => simp at hu
      case c2 => intro u hu; simp at hu; rcases hu with rfl | rfl <;> rfl
      case c3 => unfold maxLen; omega
      case c4 => omega
      case c5 => simp; omega
      intro v' w1 hown1 hgrow1 _
      have hb1 : Below w.heap.size w w1 := ((hbk.alloc hsz _).alloc (by simp; omega) _).grown hgrow1 (by simp; omega) (fun k hk => (hown.lt k hk).1)
      have hown2 : w1.ownsRow w.heap.size 49 2 v' (k + 1) (actCells (acts.take (k + 1))) := by
        rw [take_snoc acts k _ HKA.out, actCells_append]; exact hown1
      clear hown1 hgrow1 hown
      go_wp2_with fail
      go_roundw
      case rel => exact ⟨k + 1, by omega, by go_num, hown2, hb1⟩
      case measure => simp [intOf]; omega
    · obtain rfl : k = acts.length := by omega
      rw [List.take_length] at hown
      have hrd : ReadsActs u3 acts wr := by
        rcases hown.2 with ⟨rfl, h0⟩ | ⟨g, cap, cur, rfl, hB, hg, hn, hc, hs, ht⟩
        · exact .inl ⟨List.eq_nil_of_length_eq_zero h0, none, 0, rfl⟩
        · refine .inr ⟨g, 0, cap, rfl, lt_of_block hg, fun i k a hi => ?_⟩
          obtain ⟨h1, h2⟩ := actCells_get acts i k a hi
          have hlt : i < acts.length := by
            rcases Nat.lt_or_ge i acts.length with h | h
            · exact h
            · rw [List.getElem?_eq_none h] at hi; cases hi
          have key : ∀ j, j < acts.length * 2 → wr.cell? ⟨g, 0 + j, none⟩ = (actCells acts)[j]? := by
            intro j hj
            rw [← ht, List.getElem?_take, if_pos hj]
            simp [World.cell?, hg]
          refine ⟨by rw [key _ (by omega)]; exact h1, ?_⟩
          rw [show 0 + i * 2 + 1 = 0 + (i * 2 + 1) by omega, key _ (by omega)]; exact h2
      clear hown
      go_wp2_with fail
      go_ret
      exact ⟨_, rfl, hrd, hbk⟩

end Go.Proofs.Ythbdhcbdhcgkfaa
