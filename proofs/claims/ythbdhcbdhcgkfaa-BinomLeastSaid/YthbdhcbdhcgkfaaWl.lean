/- The walk of athanorref19.Choose: Pascal's triangle, row by row, capped. -/
import Derived.Test.YthbdhcbdhcgkfaaWk
namespace Go.Proofs.Ythbdhcbdhcgkfaa
open Go.RowKit
set_option linter.unusedVariables false

/-- A row of ints in memory. -/
def intCells (L : List Int) : Array Value := (L.map (Value.int .i64)).toArray
def RowAt (g : Nat) (L : List Int) (w : World) : Prop := w.heap[g]? = some (.cells (intCells L) 3 (0, 0))

section
variable {g : Nat} {L : List Int} {w : World}
theorem RowAt.lt (h : RowAt g L w) : g < w.heap.size := lt_of_block h
theorem RowAt.cell (h : RowAt g L w) {j : Nat} {x : Int} (hj : L[j]? = some x) : w.cell? ⟨g, j, none⟩ = some (.int .i64 x) := by
  unfold RowAt at h; simp [World.cell?, h, intCells, hj]
theorem RowAt.free (h : RowAt g L w) (j : Nat) : w.frozen? ⟨g, j, none⟩ = false := by unfold RowAt at h; simp [World.frozen?, h]
theorem RowAt.alloc (h : RowAt g L w) (o : Obj) : RowAt g L (w.alloc o) := by unfold RowAt; rw [Below.heap_alloc _ _ _ h.lt]; exact h
theorem RowAt.drewN (h : RowAt g L w) (n : Nat) : RowAt g L (w.drewN n) := h
theorem RowAt.drew (h : RowAt g L w) : RowAt g L w.drew := h
theorem RowAt.set (h : RowAt g L w) (j : Nat) (x : Int) : RowAt g (L.set j x) (w.setCell ⟨g, j, none⟩ (.int .i64 x)) := by
  unfold RowAt; rw [row_setCell h]; simp [intCells]
theorem RowAt.other (h : RowAt g L w) {a : Addr} (ha : g ≠ a.block) (v : Value) : RowAt g L (w.setCell a v) := by
  unfold RowAt; rw [Below.heap_setCell _ _ _ _ ha]; exact h
theorem RowAt.below (h : RowAt g L w) {w' : World} {B : Nat} (hg : g < B) (hb : Below B w w') : RowAt g L w' := by
  unfold RowAt; rw [hb.block g hg]; exact h
end

/-- Pascal's number, capped. -/
def cp (n k : Nat) : Nat := min (BM.pa n k) 1099511627777
/-- What the row of next holds when j of its k + 1 places are done (row i + 1). -/
def nextL (i k j : Nat) : List Int := (List.range (k + 1)).map fun t => if t < j then (cp (i + 1) t : Int) else 0
def crow (k : Nat) : Nat → List Int
  | 0 => [1]
  | i + 1 => nextL i k (k + 1)

theorem nextL_length (i k j : Nat) : (nextL i k j).length = k + 1 := by simp [nextL]
theorem nextL_get (i k j t : Nat) (h : t ≤ k) : (nextL i k j)[t]? = some (if t < j then (cp (i + 1) t : Int) else 0) := by
  simp [nextL, List.getElem?_range (show t < k + 1 by omega)]
theorem nextL_zero (i k : Nat) : nextL i k 0 = List.replicate (k + 1) 0 := by
  apply List.ext_getElem?
  intro t
  by_cases h : t ≤ k
  · rw [nextL_get i k 0 t h, if_neg (by omega), List.getElem?_replicate, if_pos (by omega)]
  · rw [List.getElem?_eq_none (by rw [nextL_length]; omega), List.getElem?_eq_none (by simp; omega)]
theorem nextL_succ (i k j : Nat) (h : j ≤ k) : (nextL i k j).set j (cp (i + 1) j) = nextL i k (j + 1) := by
  apply List.ext_getElem?
  intro t
  by_cases ht : t ≤ k
  · rw [List.getElem?_set, nextL_length, nextL_get i k j t ht, nextL_get i k (j + 1) t ht]
    by_cases e : j = t
    · subst e; rw [if_pos rfl, if_pos (by omega), if_pos (by omega)]
    · rw [if_neg e]
      by_cases e2 : t < j
      · rw [if_pos e2, if_pos (by omega)]
      · rw [if_neg e2, if_neg (by omega)]
  · rw [List.getElem?_eq_none (by simp [nextL_length]; omega), List.getElem?_eq_none (by rw [nextL_length]; omega)]

theorem cp_zero (n : Nat) : cp n 0 = 1 := by simp [cp, BM.pa_zero]
theorem cp_le (n k : Nat) : cp n k ≤ 1099511627777 := by unfold cp; omega
theorem cp_succ (n k : Nat) : cp (n + 1) (k + 1) = min (cp n (k + 1) + cp n k) 1099511627777 := by
  unfold cp; rw [BM.pa_succ]; omega

/-- Row i holds at place t (if it is that long) Pascal's number, capped; else that number is 0. -/
theorem crow_get (k i t : Nat) (ht : t ≤ k) : (crow k i)[t]? = some (cp i t : Int) ∨ ((crow k i).length ≤ t ∧ cp i t = 0) := by
  cases i with
  | zero =>
    cases t with
    | zero => left; simp [crow, cp, BM.pa]
    | succ t => right; simp [crow, cp, BM.pa]
  | succ i => left; show (nextL i k (k + 1))[t]? = _; rw [nextL_get i k (k + 1) t ht, if_pos (by omega)]

theorem make_ints (n : Nat) (K : Int) (hK : K = n) (h2 : n ≤ 100000) (w : World) :
    (Instr.makeSlice 38 (.int .i64 (K + 1)) (.int .i64 (K + 1))).run Try.prog w = .ok (.slice (some ⟨w.heap.size, 0, none⟩) (n + 1) (n + 1)) (w.alloc (.cells (intCells (List.replicate (n + 1) 0)) 3)) := by
  have info3 : (Try.prog.info? 3).map (fun i => (i.zero, i.size, i.bytes)) = some (some (.int .i64 0), 1, 8) := by kernel_rfl
  obtain ⟨i0, hi, hz0, hz1, hz2⟩ := info_parts info3
  have h := run_make (P := Try.prog) w 38 3 i0 (.int .i64 0) Try.underlying38 hi hz0 .i64 .i64 (K + 1) (K + 1) (by omega) (by omega) (by rw [hz2]; omega) (by omega)
  rw [h, hz1]
  have e : (K + 1).toNat = n + 1 := by omega
  rw [e]
  congr 3
  apply Array.toList_inj.1
  simp [Value.cells, toList_madeCells_one, intCells]

/-- What the round leaves in next[j]. -/
theorem cp_round (k i j : Nat) (hj : j ≤ k) : (cp (i + 1) j : Int) = (if j = 0 then (cp i 0 : Int) else min ((cp i j : Int) + (cp i (j - 1) : Int)) 1099511627777) := by
  cases j with
  | zero => simp [cp_zero]
  | succ j => rw [if_neg (by omega), cp_succ]; simp only [Nat.add_sub_cancel]; omega

/-- The world in which the place j of row g' is being filled. -/
structure RoundAt (g g' k i j : Nat) (w : World) : Prop where
  row : RowAt g (crow k i) w
  nxt : RowAt g' (nextL i k j) w
  ne : g ≠ g'

theorem RowAt.fin {g j : Nat} {L L' : List Int} {v : Int} {w : World} (h : RowAt g L w) (hL : L.set j v = L') : RowAt g L' (w.setCell ⟨g, j, none⟩ (.int .i64 v)) := hL ▸ h.set j v
theorem nextL_same (i k j : Nat) (h : cp (i + 1) j = 0) : nextL i k (j + 1) = nextL i k j := by
  unfold nextL
  apply List.map_congr_left
  intro t _
  by_cases e : t = j
  · subst e; rw [if_pos (by omega), if_neg (by omega), h]; rfl
  · by_cases e2 : t < j
    · rw [if_pos e2, if_pos (by omega)]
    · rw [if_neg e2, if_neg (by omega)]
theorem crow_pos (k i : Nat) : 1 ≤ (crow k i).length := by
  cases i with
  | zero => simp [crow]
  | succ i => show 1 ≤ (nextL i k (k + 1)).length; rw [nextL_length]; omega

set_option maxHeartbeats 1600000 in
theorem refChoose_yes (n k : Nat) (N K : Int) (w : World) (hN : N = n) (hK : K = k) (hk : k ≤ n) (hn : n ≤ 300) :
    Calls Try.prog 17 #[.int .i64 N, .int .i64 K] w fun e w' => e = .returned (.int .i64 (cp n k)) ∧ Below w.heap.size w w' := by
  have hmk := make_ints k K hK (by omega)
  have b1 : 0 ≤ N := by omega
  have b2 : N ≤ 300 := by omega
  have b3 : 0 ≤ K := by omega
  have b4 : K ≤ 300 := by omega
  have HN := Lib.hid hN
  have HK := Lib.hid hK
  clear hN hK
  go_enter Try.func17, Try.ntmps17
  go_wp2
  go_loopw [5, 6] (fun r x wr => ∃ (i g : Nat), i ≤ n ∧ x = .int .i64 ((i : Int) + 1) ∧ r = .slice (some ⟨g, 0, none⟩) (crow k i).length (crow k i).length ∧ RowAt g (crow k i) wr ∧ w.heap.size ≤ g ∧ Below w.heap.size w wr) (fun _ x _ => (N + 1 - intOf x).toNat)
  case atStart => exact ⟨0, w.heap.size, by omega, by go_num, rfl, heap_alloc_new w _, Nat.le_refl _, (Below.refl _ _).alloc (Nat.le_refl _) _⟩
  case round =>
    obtain ⟨i, g, hi, rfl, rfl, hrow, hg, hbel⟩ := hrel
    by_cases hlt : i < n
    · have t1 : (i : Int) + 1 ≤ N := by have := HN.out; omega
      obtain ⟨wo, rfl⟩ : ∃ wo : World, wo = wr := ⟨_, rfl⟩
      have hsz := hbel.size
      go_wp2
      go_loopw [8] (fun x wr => ∃ j : Nat, j ≤ k + 1 ∧ x = .int .i64 j ∧ RoundAt g wo.heap.size k i j wr ∧ Below w.heap.size w wr) (fun x _ => k + 1 - (intOf x).toNat)
      case atStart => exact ⟨0, by omega, rfl, ⟨hrow.alloc _, by rw [nextL_zero]; exact heap_alloc_new wo _, by have := hrow.lt; omega⟩, hbel.alloc hsz _⟩
      case round =>
        obtain ⟨j, hj, rfl, hR, hB⟩ := hrel
        obtain ⟨hr1, hr2, hne⟩ := hR
        by_cases hjk : j ≤ k
        · have t2 : (j : Int) ≤ K := by have := HK.out; omega
          have hc0 : wr.cell? ⟨wo.heap.size, j, none⟩ = some (.int .i64 0) := hr2.cell (by rw [nextL_get i k j j hjk, if_neg (by omega)])
          have hf0 := hr2.free j
          have q1 := cp_le i j
          have q2 := cp_le i (j - 1)
          rcases crow_get k i j hjk with hx | ⟨hx, hx0⟩
          · have hlen : j < (crow k i).length := by
              rcases Nat.lt_or_ge j (crow k i).length with h | h
              · exact h
              · rw [List.getElem?_eq_none h] at hx; cases hx
            have hc1 : wr.cell? ⟨g, j, none⟩ = some (.int .i64 (cp i j)) := hr1.cell hx
            by_cases hj0 : j = 0
            · subst hj0
              have z1 := cp_zero i
              have z2 : (cp i 0 : Int) ≤ 1 := by omega
              clear hx z1
              go_wp2
              go_region
              go_wp2
              go_roundw
              case rel =>
                refine ⟨0 + 1, by omega, by go_num, ⟨?_, ?_, hne⟩, ?_⟩
                · repeat (first | exact hr1 | apply RowAt.drew | refine RowAt.other ?_ hne _)
                · repeat (apply RowAt.drew)
                  refine hr2.fin ?_
                  rw [← nextL_succ i k 0 hjk]
                  try simp only [List.set_set]
                  congr 1
                  rw [cp_round k i 0 hjk]
                  rw [if_pos rfl]
                · repeat (first | exact hB | apply Below.drew | refine Below.setCell ?_ (by simpa using hsz) _)
              case measure => simp [intOf]
            · rcases crow_get k i (j - 1) (by omega) with hy | ⟨hy, hy0⟩
              · have hlen2 : j - 1 < (crow k i).length := by omega
                have hlen3 : (j : Int) - 1 < ((crow k i).length : Int) := by omega
                have hc2 : wr.cell? ⟨g, j - 1, none⟩ = some (.int .i64 (cp i (j - 1))) := hr1.cell hy
                have e1 : ((j : Int) - 1).toNat = j - 1 := by omega
                clear hx hy
                by_cases hbig : 1099511627776 < (cp i j : Int) + (cp i (j - 1) : Int)
                · go_wp2
                  go_region
                  go_wp2
                  go_region
                  go_wp2
                  go_roundw
                  case rel =>
                    refine ⟨j + 1, by omega, by go_num, ⟨?_, ?_, hne⟩, ?_⟩
                    · repeat (first | exact hr1 | apply RowAt.drew | refine RowAt.other ?_ hne _)
                    · repeat (apply RowAt.drew)
                      refine ((hr2.set j (cp i j : Int)).set j ((cp i j : Int) + (cp i (j - 1) : Int))).fin ?_
                      rw [← nextL_succ i k j hjk]
                      try simp only [List.set_set]
                      congr 1
                      rw [cp_round k i j hjk]
                      rw [if_neg hj0]; omega
                    · repeat (first | exact hB | apply Below.drew | refine Below.setCell ?_ (by simpa using hsz) _)
                  case measure => simp [intOf]; omega
                · go_wp2
                  go_region
                  go_wp2
                  go_region
                  go_wp2
                  go_roundw
                  case rel =>
                    refine ⟨j + 1, by omega, by go_num, ⟨?_, ?_, hne⟩, ?_⟩
                    · repeat (first | exact hr1 | apply RowAt.drew | refine RowAt.other ?_ hne _)
                    · repeat (apply RowAt.drew)
                      refine (hr2.set j (cp i j : Int)).fin ?_
                      rw [← nextL_succ i k j hjk]
                      try simp only [List.set_set]
                      congr 1
                      rw [cp_round k i j hjk]
                      rw [if_neg hj0]; omega
                    · repeat (first | exact hB | apply Below.drew | refine Below.setCell ?_ (by simpa using hsz) _)
                  case measure => simp [intOf]; omega
              · omega
          · have hj0 : ¬ j = 0 := by have := crow_pos k i; omega
            have hlen : ¬ j < (crow k i).length := by omega
            rcases crow_get k i (j - 1) (by omega) with hy | ⟨hy, hy0⟩
            · have hlen2 : j - 1 < (crow k i).length := by
                rcases Nat.lt_or_ge (j - 1) (crow k i).length with h | h
                · exact h
                · rw [List.getElem?_eq_none h] at hy; cases hy
              have hlen3 : (j : Int) - 1 < ((crow k i).length : Int) := by omega
              have hc2 : wr.cell? ⟨g, j - 1, none⟩ = some (.int .i64 (cp i (j - 1))) := hr1.cell hy
              have e1 : ((j : Int) - 1).toNat = j - 1 := by omega
              have HX0 := Lib.hid hx0
              clear hx hy hx0
              by_cases hbig : 1099511627776 < (cp i (j - 1) : Int)
              · go_wp2
                go_region
                go_wp2
                go_roundw
                case rel =>
                  refine ⟨j + 1, by omega, by go_num, ⟨?_, ?_, hne⟩, ?_⟩
                  · repeat (first | exact hr1 | apply RowAt.drew | refine RowAt.other ?_ hne _)
                  · repeat (apply RowAt.drew)
                    refine (hr2.set j (cp i (j - 1) : Int)).fin ?_
                    rw [← nextL_succ i k j hjk]
                    try simp only [List.set_set]
                    congr 1
                    rw [cp_round k i j hjk]
                    rw [if_neg hj0]; have := HX0.out; omega
                  · repeat (first | exact hB | apply Below.drew | refine Below.setCell ?_ (by simpa using hsz) _)
                case measure => simp [intOf]; omega
              · go_wp2
                go_region
                go_wp2
                go_roundw
                case rel =>
                  refine ⟨j + 1, by omega, by go_num, ⟨?_, ?_, hne⟩, ?_⟩
                  · repeat (first | exact hr1 | apply RowAt.drew | refine RowAt.other ?_ hne _)
                  · repeat (apply RowAt.drew)
                    refine hr2.fin ?_
                    rw [← nextL_succ i k j hjk]
                    try simp only [List.set_set]
                    congr 1
                    rw [cp_round k i j hjk]
                    rw [if_neg hj0]; have := HX0.out; omega
                  · repeat (first | exact hB | apply Below.drew | refine Below.setCell ?_ (by simpa using hsz) _)
                case measure => simp [intOf]; omega
            · have hlen3 : ¬ (j : Int) - 1 < ((crow k i).length : Int) := by omega
              have HX0 := Lib.hid hx0
              have HY0 := Lib.hid hy0
              clear hx hy hx0 hy0
              go_wp2
              have hx0 := HX0.out
              have hy0 := HY0.out
              go_roundw
              case rel => exact ⟨j + 1, by omega, by go_num, ⟨hr1, by rw [nextL_same i k j (by have := cp_round k i j hjk; rw [if_neg hj0] at this; omega)]; exact hr2, hne⟩, hB⟩
              case measure => simp [intOf]; omega
        · obtain rfl : j = k + 1 := by omega
          have t2 : ¬ ((k : Int) + 1) ≤ K := by have := HK.out; omega
          go_wp2
          go_roundw
          case rel => exact ⟨i + 1, wo.heap.size, by omega, by go_num, by show _ = Value.slice _ (nextL i k (k + 1)).length (nextL i k (k + 1)).length; rw [nextL_length], hr2, hsz, hB⟩
          case measure => simp [intOf]; omega
    · obtain rfl : i = n := by omega
      have t1 : ¬ (i : Int) + 1 ≤ N := by have := HN.out; omega
      rcases crow_get k i k (Nat.le_refl _) with hx | ⟨hx, hx0⟩
      · have hlen : k < (crow k i).length := by
          rcases Nat.lt_or_ge k (crow k i).length with h | h
          · exact h
          · rw [List.getElem?_eq_none h] at hx; cases hx
        have t2 : K < ((crow k i).length : Int) := by have := HK.out; omega
        have e1 : K.toNat = k := by have := HK.out; omega
        have hc := hrow.cell hx
        clear hx
        go_wp2
        go_ret
        exact ⟨rfl, hbel⟩
      · have t2 : ((crow k i).length : Int) ≤ K := by have := HK.out; omega
        have HX0 := Lib.hid hx0
        clear hx hx0
        go_wp2
        go_ret
        exact ⟨ret_int (by rw [HX0.out]; rfl), hbel⟩

end Go.Proofs.Ythbdhcbdhcgkfaa
