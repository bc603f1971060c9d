/- The walks of slices.Clone and of order.Batches in the twin. -/
import Derived.Test.YtminoelijdpmeaaOd
import Derived.Maps.AppendAt
namespace Go.Proofs.Ytminoelijdpmeaa
open Go.RowKit
set_option linter.unusedVariables false

theorem owns_pre {w : World} {B : Nat} {v : Value} {L : List Int} (h : w.ownsRow B 3 1 v L.length (L.map (Value.int .i64))) (h0 : 0 < L.length) :
    ∃ g cap, v = .slice (some ⟨g, 0, none⟩) L.length cap ∧ B ≤ g ∧ L.length ≤ cap ∧ RowPre g L w := by
  obtain ⟨hl, ⟨_, h⟩ | ⟨g, cap, cur, rfl, hg, hcur, hcap, hmx, hsc, htk⟩⟩ := h
  · omega
  · exact ⟨g, cap, rfl, hg, hcap, cur, hcur, by simpa using htk⟩

set_option maxHeartbeats 400000 in
theorem clone_any (g off cap : Nat) (L : List Int) (w : World) (h0 : 0 < L.length) (hn : L.length ≤ 100000) (hc : ∀ i x, L[i]? = some x → w.cell? ⟨g, off + i, none⟩ = some (.int .i64 x)) :
    Calls Tw 18 #[.slice (some ⟨g, off, none⟩) L.length cap] w fun e w' => ∃ g' cap', e = .returned (.slice (some ⟨g', 0, none⟩) L.length cap') ∧ w.heap.size ≤ g' ∧ L.length ≤ cap' ∧ RowPre g' L w' ∧ Below w.heap.size w w' := by
  obtain ⟨i0, hi, hz0, hz1, hz2⟩ := info_parts Tw.info3
  obtain ⟨n, hN⟩ : ∃ n, n = L.length := ⟨_, rfl⟩
  have HN := Lib.hid hN
  have HC := Lib.hid hc
  rw [← hN] at hn h0 ⊢
  clear hN hc
  have hown : (w.alloc (.cells #[] 3)).ownsRow w.heap.size 3 1 (.slice (some ⟨w.heap.size, 0, none⟩) 0 0) 0 [] := ⟨rfl, .inr ⟨w.heap.size, 0, #[], rfl, Nat.le_refl _, heap_alloc_new _ _, Nat.le_refl _, by unfold maxLen; omega, rfl, rfl⟩⟩
  have heq : ∀ w, (binOp .eql 24 (.slice (some ⟨g, off, none⟩) n cap) (.slice none 0 0)).run Tw w = .ok (.bool false) w := fun w => by
    have := Lib.run_eql_slice_nil (P := Tw) w 24 3 (some ⟨g, off, none⟩) n cap 0 0 Tw.und24
    simpa using this
  go_enter Tw.func18, Try.ntmps18
  go_wp2_with (at_builtin; refine wpList_append_own_at _ rfl _ _ 24 rfl w.heap.size 3 i0 _ 1 8 Tw.und24 hi hz0 hz1 hz2 rfl (by decide) _ _ _ rfl hown ⟨g, off, none⟩ n cap (L.map (Value.int .i64)) rfl ?c0 ?c1 ?c2 ?c3 ?c4 ?c5 ?_)
  case c0 => rw [HN.out]; simp
  case c1 =>
    intro j u hu
    simp only [List.getElem?_map, Option.map_eq_some_iff] at hu
    obtain ⟨x, hx, rfl⟩ := hu
    have e : (⟨g, off, none⟩ : Addr).add j = ⟨g, off + j, none⟩ := by unfold Addr.add; split <;> simp_all
    have hc := HC.out j x hx
    rw [e, ((Below.refl _ w).alloc (Nat.le_refl _) _).cell (World.block_lt_of_cell? w ⟨g, off + j, none⟩ hc)]
    exact hc
  case c2 => intro u hu; obtain ⟨x, _, rfl⟩ := List.mem_map.1 hu; rfl
  case c3 => unfold maxLen; omega
  case c4 => omega
  case c5 => simp
  intro v' w1 hown1 hgrow1 _ _
  have hb1 : Below w.heap.size w w1 := ((Below.refl _ w).alloc (Nat.le_refl _) _).grown hgrow1 (by simp) (fun k hk => by simp [Value.ownBlock] at hk; omega)
  have hN := HN.out
  rw [hN] at hown1
  obtain ⟨g', cap', rfl, hg', hc', hR⟩ := owns_pre hown1 (by omega)
  rw [← hN] at hc'
  have HO := Lib.hid hR
  clear hown1 hgrow1 hN hR
  have e : L.length = n := HN.out.symm
  rw [e]
  clear e
  go_wp2
  go_ret
  exact ⟨g', cap', rfl, hg', hc', HO.out, hb1⟩
end Go.Proofs.Ytminoelijdpmeaa
