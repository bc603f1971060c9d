/- Lists of ints in memory; the walks of order.Need and athanorref03.Same in the twin. -/
import Derived.Test.YtminoelijdpmeaaLja
import Derived.WalkKit
import Derived.WalkSpells
import Derived.WalkLawsBesides
import Derived.Lib.Hide
import Derived.Deep.QuietTactic
import Derived.BigQuiet
import Derived.OneCell
import Derived.Below
import Derived.LoopTactic
import Derived.Outline
namespace Go.Proofs.Ytminoelijdpmeaa
open Go.RowKit
set_option linter.unusedVariables false

/-- A slice value that reads as these integers. -/
def Reads (k : IntKind) (v : Value) (L : List Int) (w : World) : Prop :=
  (L = [] ∧ ∃ b cap, v = .slice b 0 cap) ∨ ∃ g off cap, v = .slice (some ⟨g, off, none⟩) L.length cap ∧ 0 < L.length ∧ L.length ≤ cap ∧ g < w.heap.size ∧ ∀ i x, L[i]? = some x → w.cell? ⟨g, off + i, none⟩ = some (.int k x)

theorem Reads.below {k : IntKind} {v : Value} {L : List Int} {w w' : World} (h : Reads k v L w) {B : Nat} (hB : w.heap.size ≤ B) (hb : Below B w w') : Reads k v L w' := by
  rcases h with h | ⟨g, off, cap, rfl, h0, hcap, hg, hc⟩
  · exact .inl h
  · exact .inr ⟨g, off, cap, rfl, h0, hcap, Nat.lt_of_lt_of_le hg hb.size, fun i x hi => by rw [hb.cell (show g < B by omega)]; exact hc i x hi⟩
theorem Reads.parts {k : IntKind} {v : Value} {L : List Int} {w : World} (h : Reads k v L w) : ∃ b cap, v = .slice b L.length cap ∧ (0 < L.length → ∃ g off, b = some ⟨g, off, none⟩ ∧ g < w.heap.size ∧ ∀ i x, L[i]? = some x → w.cell? ⟨g, off + i, none⟩ = some (.int k x)) := by
  rcases h with ⟨rfl, b, c, rfl⟩ | ⟨g, off, cap, rfl, h0, hcap, hg, hc⟩
  · exact ⟨b, c, rfl, fun h => absurd h (by simp)⟩
  · exact ⟨_, cap, rfl, fun _ => ⟨g, off, rfl, hg, hc⟩⟩
theorem Reads.drewN {k : IntKind} {v : Value} {L : List Int} {w : World} (h : Reads k v L w) (n : Nat) : Reads k v L (w.drewN n) := h

theorem row_setCell {w : World} {b j : Nat} {cs : Array Value} {t : TypeId} {u : Value} (h : w.heap[b]? = some (.cells cs t (0, 0))) :
    (w.setCell ⟨b, j, none⟩ u).heap[b]? = some (.cells (cs.setIfInBounds j u) t (0, 0)) := by
  simp [World.setCell, Array.getElem?_modify, h]
/-- A row of ints in memory. -/
def intCells (L : List Int) : Array Value := (L.map (Value.int .i64)).toArray
def RowAt (g : Nat) (L : List Int) (w : World) : Prop := w.heap[g]? = some (.cells (intCells L) 3 (0, 0))

section
variable {g : Nat} {L : List Int} {w : World}
theorem RowAt.lt (h : RowAt g L w) : g < w.heap.size := lt_of_block h
theorem RowAt.cell (h : RowAt g L w) {j : Nat} {x : Int} (hj : L[j]? = some x) : w.cell? ⟨g, j, none⟩ = some (.int .i64 x) := by
  unfold RowAt at h; simp [World.cell?, h, intCells, hj]
theorem RowAt.free (h : RowAt g L w) (j : Nat) : w.frozen? ⟨g, j, none⟩ = false := by unfold RowAt at h; simp [World.frozen?, h]
theorem RowAt.alloc (h : RowAt g L w) (o : Obj) : RowAt g L (w.alloc o) := by unfold RowAt; rw [Below.heap_alloc _ _ _ h.lt]; exact h
theorem RowAt.drewN (h : RowAt g L w) (n : Nat) : RowAt g L (w.drewN n) := h
theorem RowAt.drew (h : RowAt g L w) : RowAt g L w.drew := h
theorem RowAt.set (h : RowAt g L w) (j : Nat) (x : Int) : RowAt g (L.set j x) (w.setCell ⟨g, j, none⟩ (.int .i64 x)) := by
  unfold RowAt; rw [row_setCell h]; simp [intCells]
theorem RowAt.other (h : RowAt g L w) {a : Addr} (ha : g ≠ a.block) (v : Value) : RowAt g L (w.setCell a v) := by
  unfold RowAt; rw [Below.heap_setCell _ _ _ _ ha]; exact h
theorem RowAt.below (h : RowAt g L w) {w' : World} {B : Nat} (hg : g < B) (hb : Below B w w') : RowAt g L w' := by
  unfold RowAt; rw [hb.block g hg]; exact h
theorem RowAt.reads (h : RowAt g L w) : Reads .i64 (.slice (some ⟨g, 0, none⟩) L.length L.length) L w := by
  rcases Nat.eq_zero_or_pos L.length with h0 | h0
  · exact .inl ⟨List.eq_nil_of_length_eq_zero h0, _, _, by rw [h0]⟩
  · exact .inr ⟨g, 0, _, rfl, h0, Nat.le_refl _, h.lt, fun i x hi => by rw [Nat.zero_add]; exact h.cell hi⟩
end
theorem _root_.Go.Below.drew {B : Nat} {a w : World} (h : Below B a w) : Below B a w.drew := ⟨h.os, h.tape, h.output, h.size, h.block⟩
theorem below_drewN {B : Nat} {a w : World} (h : Below B a w) (n : Nat) : Below B a (w.drewN n) := ⟨h.os, h.tape, h.output, h.size, h.block⟩

set_option maxHeartbeats 400000 in
theorem need_any (n : Int) (w : World) (h1 : -1000000 ≤ n) (h2 : n ≤ 1000000) :
    Calls Tw 13 #[.int .i64 n] w fun e w' => e = .returned (.int .i64 (max (n - 1) 0)) ∧ w = w' := by
  by_cases h : n ≤ 0
  · have hm : max (n - 1) 0 = 0 := by omega
    have H := Lib.hid hm
    clear hm
    go_enter Tw.func13, Try.ntmps13
    go_wp2
    go_ret
    exact ⟨by rw [H.out]; rfl, rfl⟩
  · have hm : max (n - 1) 0 = n - 1 := by omega
    have H := Lib.hid hm
    clear hm
    go_enter Tw.func13, Try.ntmps13
    go_wp2
    go_ret
    exact ⟨by rw [H.out]; rfl, rfl⟩

set_option maxHeartbeats 400000 in
theorem same_t (va vb : Value) (L : List Int) (w : World) (hn : L.length ≤ 100000) (hA : Reads .i64 va L w) (hB : Reads .i64 vb L w) :
    Calls Tw 10 #[va, vb] w fun e w' => e = .returned (.bool true) ∧ ∃ m, w' = w.drewN m := by
  rcases hA with ⟨rfl, b1, c1, rfl⟩ | ⟨g, off, cap, rfl, h0, hcap, hg, hc⟩
  · rcases hB with ⟨_, b2, c2, rfl⟩ | ⟨_, _, _, _, h, _⟩
    · go_enter Tw.func10, Try.ntmps10
      go_wp2
      go_loop [5] (fun x => x = .int .i64 0) (fun _ => 0)
      case atStart => rfl
      case round =>
        subst hrel
        go_wp2
        go_ret
        exact ⟨rfl, 0, rfl⟩
    · simp at h
  · rcases hB with ⟨h, _⟩ | ⟨g2, off2, cap2, rfl, _, hcap2, hg2, hc2⟩
    · simp [h] at h0
    · obtain ⟨n, hN⟩ : ∃ n, n = L.length := ⟨_, rfl⟩
      rw [← hN] at hn h0 ⊢
      have HN := Lib.hid hN
      have HC := Lib.hid hc
      have HC2 := Lib.hid hc2
      clear hN hc hc2 hcap hcap2
      go_enter Tw.func10, Try.ntmps10
      go_wp2
      go_loopw [5] (fun x wr => ∃ (i m : Nat), i ≤ n ∧ x = .int .i64 i ∧ wr = w.drewN m) (fun x _ => n - (intOf x).toNat)
      case atStart => exact ⟨0, 0, by omega, rfl, rfl⟩
      case round =>
        obtain ⟨i, m, hi, rfl, rfl⟩ := hrel
        by_cases hlt : i < n
        · have t1 : (i : Int) < (n : Int) := by omega
          have hlt' : i < L.length := by have := HN.out; omega
          obtain ⟨x, hx⟩ : ∃ x, L[i]? = some x := ⟨_, List.getElem?_eq_getElem hlt'⟩
          have q1 := HC.out i x hx
          have q2 := HC2.out i x hx
          clear hx
          go_wp2
          go_quiet (fail)
          go_wp2
          go_roundw
          case rel => exact ⟨i + 1, _, by omega, by go_num, rfl⟩
          case measure => simp [intOf]; omega
        · have t1 : ¬ (i : Int) < (n : Int) := by omega
          go_wp2
          go_ret
          exact ⟨rfl, _, rfl⟩
end Go.Proofs.Ytminoelijdpmeaa
