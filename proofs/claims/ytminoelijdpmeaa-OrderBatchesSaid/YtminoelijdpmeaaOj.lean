/- The walk of athanorlaw25.awake in the twin: it returns true and changes nothing that was there. -/
import Derived.Test.YtminoelijdpmeaaOi
import Derived.Test.YtminoelijdpmeaaOe
namespace Go.Proofs.Ytminoelijdpmeaa
open Go.RowKit Lift FeedRun
set_option linter.unusedVariables false

theorem m3 : mixL 3 [] = [1, 2, 0] := by decide +kernel
theorem w120 : wholeTo [1, 2, 0] 3 := wholeB_t.1 (by decide +kernel)
theorem i120 : invL [1, 2, 0] = [2, 0, 1] := by decide +kernel
theorem c0 : chunk [1, 2, 3] 2 0 = [1, 2] := by decide +kernel
theorem c1 : chunk [1, 2, 3] 2 1 = [3] := by decide +kernel
theorem nil_reads (k : IntKind) (w : World) : Reads k (.slice none 0 0) [] w := .inl ⟨rfl, none, 0, rfl⟩

theorem grow_block {w w' : World} {row : Option Nat} (h : w.grownBy w' row) {k : Nat} (hk : k < w.heap.size) (hne : row ≠ some k) : w'.heap[k]? = w.heap[k]? := h.block k hk (fun e => hne e.symm)
theorem RowAt.grown {g : Nat} {L : List Int} {w w' : World} (h : RowAt g L w) {row : Option Nat} (hg : w.grownBy w' row) (hne : row ≠ some g) : RowAt g L w' := by
  unfold RowAt; rw [grow_block hg h.lt hne]; exact h
theorem below_wX (w : World) (x : Value) (c e : Obj) : Below w.heap.size w (wX w x c e) :=
  (((((Below.refl _ w).alloc (Nat.le_refl _) _).alloc (by simp) _).alloc (by simp; omega) _).alloc (by simp; omega) _).alloc (by simp; omega) _

theorem eql_chan (w : World) (c : Nat) : (binOp .eql 38 (.chan (some c)) (.chan none)).run Tw w = .ok (.bool false) w := by
  have h : ∀ d : Nat, (Op.equalIn (d + 1) 38 (.chan (some c)) (.chan none)).run Tw w = .ok false w := fun d => by
    simp [Op.equalIn]
  simp [binOp, Op.equal, Op.maxDepth, h 9999]
theorem owns_u64 {w : World} {B : Nat} {v : Value} {L : List Int} (h : w.ownsRow B 41 1 v L.length (u64V L)) : Reads .u64 v L w := by
  obtain ⟨hl, ⟨rfl, h0⟩ | ⟨g, cap, cur, rfl, hg, hcur, hcap, hmx, hsc, htk⟩⟩ := h
  · exact .inl ⟨List.eq_nil_of_length_eq_zero h0, _, _, rfl⟩
  · rcases Nat.eq_zero_or_pos L.length with h0 | h0
    · exact .inl ⟨List.eq_nil_of_length_eq_zero h0, _, _, by rw [h0]⟩
    · refine .inr ⟨g, 0, cap, rfl, h0, hcap, lt_of_block hcur, fun i x hi => ?_⟩
      have hlt := (List.getElem?_eq_some_iff.1 hi).1
      have : (cur.toList.take (L.length * 1))[i]? = some (.int .u64 x) := by rw [htk]; simp [u64V, hi]
      rw [List.getElem?_take, if_pos (by omega)] at this
      simpa [World.cell?, hcur] using this

theorem need_5 (w : World) : Calls Tw 13 #[.int .i64 5] w fun e w' => e = .returned (.int .i64 4) ∧ w = w' := need_any 5 w (by omega) (by omega)

/-- The second of the batches, as a cell. -/
theorem bat_second {N : Nat} {u : Value} {m : Nat} {B : Nat → List Int} {G K : Nat → Nat} {w : World} (h : BatAt N u m B G K w) (hm : 0 < m) :
    ∃ g cap cur, u = .slice (some ⟨g, 0, none⟩) m cap ∧ N ≤ g ∧ m ≤ cap ∧ w.heap[g]? = some (.cells cur 24 (0, 0)) ∧ ∀ i, i < m → cur[i]? = some (.slice (some ⟨G i, 0, none⟩) (B i).length (K i)) := by
  obtain ⟨hl, ⟨_, h⟩ | ⟨g, cap, cur, rfl, hg, hcur, hcap, hmx, hsc, htk⟩⟩ := h.own
  · omega
  · refine ⟨g, cap, cur, rfl, hg, hcap, hcur, fun i hi => ?_⟩
    have : (cur.toList.take (m * 1))[i]? = (batV B G K m)[i]? := by rw [htk]
    rw [List.getElem?_take, if_pos (by omega)] at this
    rw [← Array.getElem?_toList, this]
    simp [batV, hi]

set_option maxRecDepth 100000 in
set_option maxHeartbeats 1600000 in
theorem awake_any (w : World) : Calls Tw 8 #[] w fun e w' => e = .returned (.bool true) ∧ Below w.heap.size w w' := by
  go_enter Tw.func8, Try.ntmps8
  go_wp2_with fail
  refine (mix_yes 3 (.slice none 0 0) [] _ (by omega) (by omega) (by simp) (nil_reads _ _) (by simp)).mono ?_
  rintro e w1 ⟨rfl, hR1, hB1, hs1⟩
  rw [m3] at hR1
  go_wp2_with fail
  have hr2 : Reads .i64 (.slice (some ⟨w1.heap.size, 0, none⟩) 3 3) [1, 2, 3] (w1.alloc (.cells #[.int .i64 1, .int .i64 2, .int .i64 3] 3)) :=
    RowAt.reads (L := [1, 2, 3]) (heap_alloc_new _ _)
  refine (batches_yes 2 _ [1, 2, 3] _ (by omega) (by omega) (by simp) hr2).mono ?_
  rintro e w2 ⟨u, m, G, K, rfl, hm, hBat, hB2⟩
  obtain rfl : m = 2 := by obtain ⟨a, b⟩ := hm; simp at a b; omega
  clear hm hr2
  obtain ⟨gu, cu, cur, rfl, hgu, hcu, hblk, hcur⟩ := bat_second hBat (by omega)
  have hc1 := hcur 1 (by omega)
  rw [c1] at hc1
  have hs2 := hB2.size
  simp only [World.size_alloc] at hs2 hgu hB2
  have hgl : gu < w2.heap.size := lt_of_block hblk
  have hR2 : RowAt w.heap.size [1, 2, 0] w2 := (hR1.alloc _).below (by omega) hB2
  have hB2' : Below w.heap.size w w2 := ((hB1.alloc (by omega) _)).trans (hB2.mono (by omega))
  have HBLK := Lib.hid hblk
  have HC1 := Lib.hid hc1
  clear hBat hcur hblk hc1 hR1 hB1 hB2
  go_wp2_with fail
  refine (invert_any _ [1, 2, 0] _ (by simp) (RowAt.reads (L := [1, 2, 0]) hR2)).mono ?_
  rintro e w3 ⟨⟨_, rfl, hR3, hs3⟩ | ⟨h, _⟩, hB3⟩
  · rw [i120] at hR3
    have hR3' : RowAt w.heap.size [1, 2, 0] w3 := hR2.below (by omega) hB3
    have hblk3 : w3.heap[gu]? = some (.cells cur 24 (0, 0)) := by rw [hB3.block gu hgl]; exact HBLK.out
    have hB3' : Below w.heap.size w w3 := hB2'.trans (hB3.mono (by omega))
    have HBLK3 := Lib.hid hblk3
    clear HBLK hblk3 hR2 hB2' hB3
    simp only [List.length_cons, List.length_nil]
    go_wp2_with fail
    refine (mix_no (-1) _ _ (.inl (by omega))).mono ?_
    rintro e w4 ⟨rfl, rfl⟩
    go_wp2_with fail
    have hr5 : Reads .u64 (.slice (some ⟨w3.heap.size, 0, none⟩) 2 2) [7, 8] (w3.alloc (.cells #[.int .u64 7, .int .u64 8] 41)) :=
      .inr ⟨w3.heap.size, 0, 2, rfl, by simp, by simp, by simp, fun i x hi => by
        match i with
        | 0 => simp at hi; subst hi; simp [World.cell?_alloc_new]
        | 1 => simp at hi; subst hi; simp [World.cell?_alloc_new]
        | i + 2 => simp at hi⟩
    refine (feed_calls _ [7, 8] _ (by simp) hr5).mono ?_
    rintro e w6 ⟨rfl, hw6⟩
    simp only [World.size_alloc, List.length_cons, List.length_nil] at hw6
    have hB6 := below_wX (w3.alloc (.cells #[.int .u64 7, .int .u64 8] 41)) (.slice (some ⟨w3.heap.size, 0, none⟩) 2 2) (.chan 2 (([7, 8] : List Int).map (Value.int .u64)).toArray true 2 0 false) (.chan 0 #[] true 0 0 false)
    have hch6 := wX_get1 (W := w3.alloc (.cells #[.int .u64 7, .int .u64 8] 41)) (x := .slice (some ⟨w3.heap.size, 0, none⟩) 2 2) (c := .chan 2 (([7, 8] : List Int).map (Value.int .u64)).toArray true 2 0 false) (e := .chan 0 #[] true 0 0 false) rfl
    have hs6 := wX_size (w3.alloc (.cells #[.int .u64 7, .int .u64 8] 41)) (.slice (some ⟨w3.heap.size, 0, none⟩) 2 2) (.chan 2 (([7, 8] : List Int).map (Value.int .u64)).toArray true 2 0 false) (.chan 0 #[] true 0 0 false)
    rw [← hw6] at hB6 hch6 hs6
    simp only [World.size_alloc] at hB6 hch6 hs6
    have hs6' : w3.heap.size + 6 = w6.heap.size := by omega
    have HS6 := Lib.hid hs6'
    have hs6'' : w3.heap.size + 6 ≤ w6.heap.size := by omega
    have hR6 : RowAt w.heap.size [1, 2, 0] w6 := (hR3'.alloc _).below (by omega) hB6
    have hI6 : RowAt w2.heap.size [2, 0, 1] w6 := (hR3.alloc _).below (by omega) hB6
    have hblk6 : w6.heap[gu]? = some (.cells cur 24 (0, 0)) := by rw [hB6.block gu (by omega), Below.heap_alloc _ _ _ (by omega)]; exact HBLK3.out
    have hB6' : Below w.heap.size w w6 := (hB3'.alloc (by omega) _).trans (hB6.mono (by omega))
    have HBLK6 := Lib.hid hblk6
    have HCH6 := Lib.hid hch6
    clear hw6 hB6 hch6 hs6 hs6' hblk6 HBLK3 hR3' hR3 hB3' hr5
    have heq := eql_chan
    go_wp2_with fail
    clear heq
    refine (take_any (w3.heap.size + 1 + 1) 2 [7, 8] 5 2 0 _ (by simp) HCH6.out).mono ?_
    rintro e w7 ⟨d, r', rfl, hown7, hch7, hgr7⟩
    have hs7 := hgr7.size
    have hrd7 := owns_u64 hown7
    rcases hrd7 with ⟨h, _⟩ | ⟨gd, od, cd, rfl, _, _, hgd, hcd⟩
    · simp at h
    have hq7 := hcd 1 8 rfl
    have hR7 : RowAt w.heap.size [1, 2, 0] w7 := hR6.grown hgr7 (by intro e; have := Option.some.inj e; omega)
    have hI7 : RowAt w2.heap.size [2, 0, 1] w7 := hI6.grown hgr7 (by intro e; have := Option.some.inj e; omega)
    have hblk7 : w7.heap[gu]? = some (.cells cur 24 (0, 0)) := by rw [grow_block hgr7 (by omega) (by intro e; have := Option.some.inj e; omega)]; exact HBLK6.out
    have hB7 : Below w.heap.size w w7 := hB6'.grown hgr7 (by omega) (fun k hk => by have := Option.some.inj hk; omega)
    have hcu7 : w7.cell? ⟨gu, 1, none⟩ = some (.slice (some ⟨G 1, 0, none⟩) 1 (K 1)) := by
      have := HC1.out
      simp only [List.length_cons, List.length_nil] at this
      simp [World.cell?, hblk7, this]
    have hgul : gu < w7.heap.size := by omega
    clear hch7 hown7 hcd hblk7 HBLK6 HC1 hR6 hI6 hB6' hgr7 HCH6
    have e7 : ((5 : Int).toNat) = 5 := rfl
    simp only [e7, List.take_succ_cons, List.take_nil, List.length_cons, List.length_nil]
    clear e7
    go_wp2_with fail
    refine (same_t _ _ [1, 2, 0] _ (by simp) (RowAt.reads (L := [1, 2, 0]) (hR7.alloc _)) (RowAt.reads (L := [1, 2, 0]) (heap_alloc_new _ _))).mono ?_
    rintro e w8 ⟨rfl, m8, rfl⟩
    go_wp2_with fail
    refine (same_t _ _ [2, 0, 1] _ (by simp) ?_ ?_).mono ?_
    · exact RowAt.reads (L := [2, 0, 1]) (((hI7.alloc _).drewN m8).alloc _)
    · refine RowAt.reads (L := [2, 0, 1]) ?_
      have e : ((w7.alloc (.cells (intCells [1, 2, 0]) 3)).drewN m8).heap.size = w7.heap.size + 1 := by simp
      have := heap_alloc_new ((w7.alloc (.cells (intCells [1, 2, 0]) 3)).drewN m8) (.cells (intCells [2, 0, 1]) 3)
      rw [e] at this
      exact this
    rintro e w9 ⟨rfl, m9, rfl⟩
    go_wp2_with fail
    refine (need_5 _).mono ?_
    rintro e w10 ⟨rfl, rfl⟩
    go_wp2_with fail
    go_ret
    exact ⟨rfl, below_drewN ((below_drewN (hB7.alloc (by omega) _) _).alloc (by simp; omega) _) _⟩
  · exact absurd w120 h
end Go.Proofs.Ytminoelijdpmeaa
