/- The walks of (*plan).add, steps: acts are appended. -/
import Derived.Test.YthbdhcbdhcgkfaaWd
namespace Go.Proofs.Ythbdhcbdhcgkfaa
open Go.RowKit

/-- Acts as cells. -/
def actCells : List (Int × Int) → List Value
  | [] => []
  | (k, a) :: r => .int .i64 k :: .int .i64 a :: actCells r

theorem actCells_length (l : List (Int × Int)) : (actCells l).length = l.length * 2 := by
  induction l with
  | nil => rfl
  | cons x r ih => obtain ⟨k, a⟩ := x; simp only [actCells, List.length_cons, ih]; omega
theorem actCells_append (l m : List (Int × Int)) : actCells (l ++ m) = actCells l ++ actCells m := by
  induction l with
  | nil => rfl
  | cons x r ih => obtain ⟨k, a⟩ := x; simp [actCells, ih]

/-- Block b is a plan whose acts are these, in a row of its own behind b. -/
def PlanAt (b : Nat) (acts : List (Int × Int)) (w : World) : Prop :=
  ∃ v, w.heap[b]? = some (.cells #[v] 41 (0, 0)) ∧ w.ownsRow (b + 1) 47 2 v acts.length (actCells acts)

theorem Try.info47 : (Try.prog.info? 47).map (fun i => (i.zero, i.size, i.bytes)) = some (some (.agg #[.int .i64 0, .int .i64 0]), 2, 16) := by kernel_rfl

set_option maxHeartbeats 400000 in
theorem add_any (b : Nat) (acts : List (Int × Int)) (k a : Int) (w : World) (hp : PlanAt b acts w) (hlen : acts.length < 1000000000) :
    Calls Try.prog 28 #[.pointer (some ⟨b, 0, none⟩), .int .i64 k, .int .i64 a] w fun e w' => e = .returned (.tuple #[]) ∧ PlanAt b (acts ++ [(k, a)]) w' ∧ Below b w w' := by
  obtain ⟨i0, hi, hz0, hz1, hz2⟩ := info_parts Try.info47
  obtain ⟨v, hb, hown⟩ := hp
  have hblt : b < w.heap.size := (Array.getElem?_eq_some_iff.1 hb).1
  have hc : w.cell? ⟨b, 0, none⟩ = some v := cell_of_one hb
  have HB := Lib.hid hb
  clear hb
  go_enter Try.func28, Try.ntmps28
  go_wp2_with (at_builtin; refine wpList_append_own _ rfl _ _ 23 rfl (b + 1) 47 i0 _ 2 16 Try.underlying23 hi hz0 hz1 hz2 rfl (by decide) _ _ _ rfl (hown.alloc _) ⟨w.heap.size, 0, none⟩ 1 1 [.int .i64 k, .int .i64 a] rfl rfl ?c1 ?c2 ?c3 ?c4 ?c5 ?_)
  case c1 =>
    intro j u hu
    match j with
    | 0 => simp at hu; subst hu; simp [Addr.add, World.cell?_alloc_new]
    | 1 => simp at hu; subst hu; simp [Addr.add, World.cell?_alloc_new]
    | j + 2 => simp at hu
  case c2 => intro u hu; simp at hu; rcases hu with rfl | rfl <;> rfl
  case c3 => unfold maxLen; omega
  case c4 => omega
  case c5 => simp; omega
  intro v' w1 hown1 hgrow1 _
  have hne : some b ≠ v.ownBlock := fun e => by have := hown.lt b e.symm; omega
  have hb1 : w1.heap[b]? = some (.cells #[v] 41 (0, 0)) := by
    rw [hgrow1.block b (by simp; omega) hne, Below.heap_alloc _ _ _ hblt]; exact HB.out
  have hc1 := cell_of_one hb1
  have hf1 := free_of_one hb1
  have HB1 := Lib.hid hb1
  have hv : ∃ g cap, v' = .slice (some ⟨g, 0, none⟩) (acts.length + 1) cap := by
    rcases hown1.2 with ⟨_, h⟩ | ⟨g, cap, cur, rfl, _⟩
    · omega
    · exact ⟨g, cap, rfl⟩
  have hsz := hgrow1.size
  have hbel : Below b w w1 := ((Below.refl b w).alloc (by omega) _).grown hgrow1 (by simp; omega) (fun k hk => by have := hown.lt k hk; omega)
  clear hb1 hc hown hgrow1
  obtain ⟨g, cap, hv⟩ := hv
  rw [hv]
  rw [hv] at hown1
  go_wp2
  go_end0
  refine ⟨rfl, ⟨_, one_setCell HB1.out, ?_⟩, hbel.setCell (by simp) _⟩
  rw [actCells_append, List.length_append]
  exact ownsRow_setCell_below hown1 (by simp) _

/-- n forward steps from position f. -/
def goL (f : Nat) : Nat → List (Int × Int)
  | 0 => []
  | n + 1 => goL f n ++ [(1, (f : Int) + n + 1)]
theorem goL_length (f n : Nat) : (goL f n).length = n := by
  induction n with
  | zero => rfl
  | succ n ih => simp [goL, ih]

set_option maxHeartbeats 400000 in
theorem steps_any (b : Nat) (acts : List (Int × Int)) (f n : Nat) (F G : Int) (w : World) (hF : F = f) (hG : G = f + n) (hp : PlanAt b acts w) (hlen : acts.length + n < 1000000000) (hf : f + n < 1000000) :
    Calls Try.prog 27 #[.pointer (some ⟨b, 0, none⟩), .int .i64 F, .int .i64 G] w fun e w' => e = .returned (.tuple #[]) ∧ PlanAt b (acts ++ goL f n) w' ∧ Below b w w' := by
  have b1 : 0 ≤ F := by omega
  have b2 : F < 1000000 := by omega
  have b3 : 0 ≤ G := by omega
  have b4 : G < 1000000 := by omega
  have HF := Lib.hid hF
  have HG := Lib.hid hG
  clear hF hG
  go_enter Try.func27, Try.ntmps27
  go_wp2_with fail
  go_loopw [6] (fun x wr => ∃ k : Nat, k ≤ n ∧ x = .int .i64 (F + 1 + k) ∧ PlanAt b (acts ++ goL f k) wr ∧ Below b w wr) (fun x _ => (G + 1 - intOf x).toNat)
  case atStart => exact ⟨0, by omega, by simp, by simpa [goL] using hp, Below.refl _ _⟩
  case round =>
    obtain ⟨k, hk, rfl, hpk, hbk⟩ := hrel
    by_cases hlt : k < n
    · have t1 : F + 1 + (k : Int) ≤ G := by have := HF.out; have := HG.out; omega
      go_wp2_with (go_at_call 28; refine (add_any b _ _ _ _ hpk (by simp [goL_length]; omega)).mono ?_; rintro e w' ⟨rfl, hp', hb'⟩)
      go_roundw
      case rel => exact ⟨k + 1, by omega, by go_num, by have := HF.out; subst this; simpa [goL, List.append_assoc, Int.add_right_comm] using hp', hbk.trans hb'⟩
      case measure => simp [intOf]; omega
    · obtain rfl : k = n := by omega
      have t1 : ¬ F + 1 + (k : Int) ≤ G := by have := HF.out; have := HG.out; omega
      go_wp2_with fail
      go_end0
      exact ⟨rfl, hpk, hbk⟩

end Go.Proofs.Ythbdhcbdhcgkfaa
