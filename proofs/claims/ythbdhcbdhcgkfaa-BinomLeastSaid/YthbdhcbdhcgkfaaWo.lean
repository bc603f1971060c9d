/- The walks of athanorref19.Table and Split. -/
import Derived.Test.YthbdhcbdhcgkfaaWl
import Derived.Test.YthbdhcbdhcgkfaaWd
namespace Go.Proofs.Ythbdhcbdhcgkfaa
open Go.RowKit
set_option linter.unusedVariables false

/-- The row of slices: the i-th is the block g + 1 + i. -/
def slRow (g s n : Nat) : List Value := (List.range n).map fun i => Value.slice (some ⟨g + 1 + i, 0, none⟩) (s + 1) (s + 1)
def rowOf (s : Nat) (f : Nat → Int) : List Int := (List.range (s + 1)).map f

/-- A table of l + 1 rows of s + 1 numbers. -/
structure TabAt (g l s : Nat) (f : Nat → Nat → Int) (w : World) : Prop where
  top : w.heap[g]? = some (.cells (slRow g s (l + 1)).toArray 38 (0, 0))
  row : ∀ i, i ≤ l → RowAt (g + 1 + i) (rowOf s (f i)) w

section
variable {g l s : Nat} {f : Nat → Nat → Int} {w : World}
theorem rowOf_get {f : Nat → Int} {m : Nat} (h : m ≤ s) : (rowOf s f)[m]? = some (f m) := by
  simp [rowOf, List.getElem?_range (show m < s + 1 by omega)]
theorem rowOf_set {f f' : Nat → Int} {m : Nat} {x : Int} (hm : f' m = x) (ho : ∀ j, j ≠ m → f' j = f j) : (rowOf s f).set m x = rowOf s f' := by
  apply List.ext_getElem?
  intro t
  by_cases ht : t ≤ s
  · rw [List.getElem?_set, rowOf_get ht, rowOf_get ht]
    by_cases e : m = t
    · subst e; rw [if_pos rfl, if_pos (by simp [rowOf]; omega), hm]
    · rw [if_neg e, ho t (fun h => e h.symm)]
  · rw [List.getElem?_eq_none (by simp [rowOf]; omega), List.getElem?_eq_none (by simp [rowOf]; omega)]
theorem TabAt.sl (h : TabAt g l s f w) {i : Nat} (hi : i ≤ l) : w.cell? ⟨g, i, none⟩ = some (.slice (some ⟨g + 1 + i, 0, none⟩) (s + 1) (s + 1)) := by
  simp [World.cell?, h.top, slRow, List.getElem?_range (show i < l + 1 by omega)]
theorem TabAt.at (h : TabAt g l s f w) {i m : Nat} (hi : i ≤ l) (hm : m ≤ s) : w.cell? ⟨g + 1 + i, m, none⟩ = some (.int .i64 (f i m)) := (h.row i hi).cell (rowOf_get hm)
theorem TabAt.free (h : TabAt g l s f w) {i : Nat} (hi : i ≤ l) (m : Nat) : w.frozen? ⟨g + 1 + i, m, none⟩ = false := (h.row i hi).free m
theorem TabAt.drewN (h : TabAt g l s f w) (n : Nat) : TabAt g l s f (w.drewN n) := ⟨h.top, h.row⟩
theorem TabAt.set (h : TabAt g l s f w) {f' : Nat → Nat → Int} {i m : Nat} {x : Int} (hx : f' i m = x) (ho : ∀ j k, (j ≠ i ∨ k ≠ m) → f' j k = f j k) :
    TabAt g l s f' (w.setCell ⟨g + 1 + i, m, none⟩ (.int .i64 x)) := by
  refine ⟨by rw [Below.heap_setCell _ _ _ _ (by simp; omega)]; exact h.top, fun j hj => ?_⟩
  by_cases e : j = i
  · subst e; exact (h.row j hj).fin (rowOf_set hx fun k hk => ho j k (.inr hk))
  · have : f' j = f j := funext fun k => ho j k (.inl e)
    rw [this]
    exact (h.row j hj).other (by simp; omega) _
theorem TabAt.below (h : TabAt g l s f w) {w' : World} {B : Nat} (hg : g + 1 + l < B) (hb : Below B w w') : TabAt g l s f w' :=
  ⟨by rw [hb.block g (by omega)]; exact h.top, fun i hi => (h.row i hi).below (by omega) hb⟩
end

/-- The rule's value while k places have been tried. -/
def bst (i m : Nat) : Nat → Nat
  | 0 => i * (i - 1) / 2
  | k + 1 => if BM.fk i m (k + 1) < bst i m k then BM.fk i m (k + 1) else bst i m k

theorem half (i : Nat) : i * (i - 1) / 2 = BM.T i 0 := by have := BM.T_zero i; omega

theorem bst_ge (i m k : Nat) (hm : 1 ≤ m) (hk : k < i) : BM.T i m ≤ bst i m k := by
  induction k with
  | zero => unfold bst; rw [half]; exact BM.T_anti (Nat.zero_le _)
  | succ k ih =>
    unfold bst
    have := ih (by omega)
    obtain ⟨n, rfl⟩ : ∃ n, m = n + 1 := ⟨m - 1, by omega⟩
    have h2 := BM.T_split i n (k + 1) (by omega) hk
    split
    · unfold BM.fk; simp only [Nat.add_sub_cancel]; exact h2
    · exact this
theorem bst_le (i m k j : Nat) (h1 : 1 ≤ j) (h2 : j ≤ k) : bst i m k ≤ BM.fk i m j := by
  induction k with
  | zero => omega
  | succ k ih =>
    unfold bst
    by_cases e : j = k + 1
    · subst e; split <;> omega
    · have := ih (by omega); split <;> omega
theorem bst_done (i m : Nat) (hm : 1 ≤ m) (hi : 2 ≤ i) : bst i m (i - 1) = BM.T i m := by
  have a := bst_ge i m (i - 1) hm (by omega)
  obtain ⟨n, rfl⟩ : ∃ n, m = n + 1 := ⟨m - 1, by omega⟩
  obtain ⟨k, k1, k2, k3⟩ := BM.T_attained i n hi
  have b := bst_le i (n + 1) (i - 1) k k1 (by omega)
  unfold BM.fk at b; simp only [Nat.add_sub_cancel] at b
  omega
theorem bst_bound (i m k : Nat) (hi : i ≤ 60) : bst i m k ≤ 1770 := by
  have h0 : i * (i - 1) / 2 ≤ 1770 := by
    have : i * (i - 1) ≤ 60 * 59 := Nat.mul_le_mul hi (by omega)
    omega
  induction k with
  | zero => exact h0
  | succ k ih => unfold bst; split <;> omega

/-- What holds at loop 3's head: all rows below i are done in column m, all columns before m are done. -/
structure Done (l s m i : Nat) (f : Nat → Nat → Int) : Prop where
  z0 : ∀ j, f 0 j = 0
  z1 : ∀ j, f 1 j = 0
  old : ∀ a b, a ≤ l → b < m → f a b = BM.T a b
  now : ∀ a, a < i → f a m = BM.T a m

theorem make_rows (l : Nat) (L : Int) (hL : L = l) (h2 : l ≤ 100000) (w : World) :
    (Instr.makeSlice 36 (.int .i64 (L + 1)) (.int .i64 (L + 1))).run Try.prog w = .ok (.slice (some ⟨w.heap.size, 0, none⟩) (l + 1) (l + 1)) (w.alloc (.cells (List.replicate (l + 1) (Value.slice none 0 0)).toArray 38)) := by
  have info38 : (Try.prog.info? 38).map (fun i => (i.zero, i.size, i.bytes)) = some (some (.slice none 0 0), 1, 24) := by kernel_rfl
  obtain ⟨i0, hi, hz0, hz1, hz2⟩ := info_parts info38
  have h := run_make (P := Try.prog) w 36 38 i0 (.slice none 0 0) Try.underlying36 hi hz0 .i64 .i64 (L + 1) (L + 1) (by omega) (by omega) (by rw [hz2]; omega) (by omega)
  rw [h, hz1]
  have e : (L + 1).toNat = l + 1 := by omega
  rw [e]
  congr 3
  apply Array.toList_inj.1
  simp [Value.cells, toList_madeCells_one]

/-- The table while its first n rows are made. -/
structure Making (g l s n : Nat) (w : World) : Prop where
  top : w.heap[g]? = some (.cells (slRow g s n ++ List.replicate (l + 1 - n) (Value.slice none 0 0)).toArray 38 (0, 0))
  row : ∀ i, i < n → RowAt (g + 1 + i) (List.replicate (s + 1) 0) w
  size : w.heap.size = g + 1 + n

theorem slRow_succ (g s n : Nat) : slRow g s (n + 1) = slRow g s n ++ [Value.slice (some ⟨g + 1 + n, 0, none⟩) (s + 1) (s + 1)] := by
  simp [slRow, List.range_succ]

theorem Making.next {g l s n : Nat} {w : World} (h : Making g l s n w) (hn : n ≤ l) :
    Making g l s (n + 1) ((w.setCell ⟨g, n, none⟩ (.slice (some ⟨w.heap.size, 0, none⟩) (s + 1) (s + 1))).alloc (.cells (intCells (List.replicate (s + 1) 0)) 3)) := by
  have hsz := h.size
  have hs2 : (w.setCell ⟨g, n, none⟩ (.slice (some ⟨w.heap.size, 0, none⟩) (s + 1) (s + 1))).heap.size = g + 1 + n := by simp [World.setCell, hsz]
  refine ⟨?_, fun i hi => ?_, ?_⟩
  · rw [Below.heap_alloc _ _ _ (by omega), row_setCell h.top, slRow_succ, hsz]
    congr 2
    rw [List.setIfInBounds_toArray]
    congr 1
    have hl : (slRow g s n).length = n := by simp [slRow]
    rw [show l + 1 - n = (l + 1 - (n + 1)) + 1 by omega, List.replicate_succ, List.set_append_right _ _ (by omega), hl]
    simp
  · unfold RowAt
    by_cases e : i = n
    · subst e
      rw [← hs2]; exact heap_alloc_new _ _
    · rw [Below.heap_alloc _ _ _ (by omega), Below.heap_setCell _ _ _ _ (by simp; omega)]; exact h.row i (by omega)
  · rw [World.size_alloc, hs2]; omega

theorem Making.done {g l s : Nat} {w : World} (h : Making g l s (l + 1) w) : TabAt g l s (fun _ _ => 0) w := by
  refine ⟨by rw [h.top]; simp, fun i hi => ?_⟩
  have := h.row i (by omega)
  have e : rowOf s (fun _ => (0 : Int)) = List.replicate (s + 1) 0 := by
    unfold rowOf; apply List.ext_getElem?; intro t
    by_cases ht : t < s + 1
    · simp [ht]
    · rw [List.getElem?_eq_none (by simp; omega), List.getElem?_eq_none (by simp; omega)]
  rw [e]; exact this

/-- The table in which the place (i, m) is turned to x. -/
def upd (f : Nat → Nat → Int) (i m : Nat) (x : Int) : Nat → Nat → Int := fun a b => if a = i ∧ b = m then x else f a b
theorem upd_same (f : Nat → Nat → Int) (i m : Nat) (x : Int) : upd f i m x i m = x := by simp [upd]
theorem upd_ne (f : Nat → Nat → Int) (i m : Nat) (x : Int) (j k : Nat) (h : j ≠ i ∨ k ≠ m) : upd f i m x j k = f j k := by unfold upd; rw [if_neg (by omega)]

set_option maxRecDepth 100000 in
set_option maxHeartbeats 3200000 in
theorem Table_any (l s : Nat) (w : World) (h1 : 1 ≤ l) (h2 : l ≤ 60) (h3 : s ≤ 60) :
    Calls Try.prog 20 #[.int .i64 l, .int .i64 s] w fun e w' => e = .returned (.slice (some ⟨w.heap.size, 0, none⟩) (l + 1) (l + 1)) ∧ TabAt w.heap.size l s (fun i m => (BM.T i m : Int)) w' ∧ Below w.heap.size w w' ∧ w.heap.size + 1 + l < w'.heap.size := by
  have hmk1 := make_rows l l rfl (by omega)
  have hmk2 := make_ints s s rfl (by omega)
  go_enter Try.func20, Try.ntmps20
  go_wp2
  go_loopw [6] (fun x wr => ∃ i : Nat, i ≤ l + 1 ∧ x = .int .i64 i ∧ Making w.heap.size l s i wr ∧ Below w.heap.size w wr) (fun x _ => l + 1 - (intOf x).toNat)
  case atStart => exact ⟨0, by omega, rfl, ⟨by rw [heap_alloc_new]; simp [slRow], fun i hi => by omega, by simp⟩, (Below.refl _ _).alloc (Nat.le_refl _) _⟩
  case round =>
    obtain ⟨i, hi, rfl, hM, hB⟩ := hrel
    by_cases hlt : i ≤ l
    · have t1 : (i : Int) ≤ (l : Int) := by omega
      have hc : wr.cell? ⟨w.heap.size, i, none⟩ = some (.slice none 0 0) := by
        have hl : (slRow w.heap.size s i).length = i := by simp [slRow]
        simp [World.cell?, hM.top, List.getElem?_append_right (show (slRow w.heap.size s i).length ≤ i by omega), hl, List.getElem?_replicate]
        omega
      have hf : wr.frozen? ⟨w.heap.size, i, none⟩ = false := by simp [World.frozen?, hM.top]
      have hsz := hM.size
      have hz : w.heap.size < wr.heap.size := by omega
      have HSZ := Lib.hid hsz
      clear hsz
      go_wp2
      go_roundw
      case rel =>
        refine ⟨i + 1, by omega, by go_num, ?_, ?_⟩
        · exact hM.next hlt
        · exact (hB.setCell (Nat.le_refl _) _).alloc (by simp; omega) _
      case measure => simp [intOf]; omega
    · obtain rfl : i = l + 1 := by omega
      have t1 : ¬ ((l : Int) + 1) ≤ (l : Int) := by omega
      have hT := hM.done
      have hsz := hM.size
      have hz : w.heap.size + 1 + l < wr.heap.size := by omega
      clear hM hsz
      go_wp2
      go_loopw [7] (fun x wr => ∃ m : Nat, m ≤ s + 1 ∧ x = .int .i64 m ∧ (∃ f, TabAt w.heap.size l s f wr ∧ Done l s m 2 f) ∧ Below w.heap.size w wr ∧ w.heap.size + 1 + l < wr.heap.size) (fun x _ => s + 1 - (intOf x).toNat)
      case atStart =>
        exact ⟨0, by omega, rfl, ⟨_, hT, ⟨fun _ => rfl, fun _ => rfl, fun a b _ hb => by omega, fun a ha => by
          rcases (show a = 0 ∨ a = 1 by omega) with rfl | rfl
          · rw [BM.T_nought]; rfl
          · rw [BM.T_one]; rfl⟩⟩, hB, hz⟩
      case round =>
        clear hT hB hz
        obtain ⟨m, hm, rfl, ⟨f0, hT, hD⟩, hB, hz⟩ := hrel
        by_cases hms : m ≤ s
        · have t2 : (m : Int) ≤ (s : Int) := by omega
          obtain ⟨wo, rfl⟩ : ∃ wo : World, wo = wr := ⟨_, rfl⟩
          go_wp2
          go_loopw [8] (fun x wr => ∃ i : Nat, 2 ≤ i ∧ i ≤ l + 1 ∧ x = .int .i64 i ∧ (∃ f, TabAt w.heap.size l s f wr ∧ Done l s m i f) ∧ Below w.heap.size w wr ∧ w.heap.size + 1 + l < wr.heap.size) (fun x _ => l + 1 - (intOf x).toNat)
          case atStart => exact ⟨2, by omega, by omega, rfl, ⟨f0, hT, hD⟩, hB, hz⟩
          case round =>
            clear hT hB hz hD
            obtain ⟨i, hi2, hil, rfl, ⟨f1, hT, hD⟩, hB, hz⟩ := hrel
            by_cases hlt : i ≤ l
            · have t3 : (i : Int) ≤ (l : Int) := by omega
              obtain ⟨wp, rfl⟩ : ∃ wp : World, wp = wr := ⟨_, rfl⟩
              have q1 := hT.sl hlt
              have q2 := hT.at hlt hms
              have q3 := hT.free hlt m
              have p1 : 0 ≤ (i : Int) * ((i : Int) - 1) := Int.mul_nonneg (by omega) (by omega)
              have p2 : (i : Int) * ((i : Int) - 1) ≤ 60 * 59 := Int.mul_le_mul (by omega) (by omega) (by omega) (by omega)
              have p3 : (i : Int) * ((i : Int) - 1) / 2 = (bst i m 0 : Int) := by
                show _ = ((i * (i - 1) / 2 : Nat) : Int)
                rw [Int.natCast_ediv, Int.natCast_mul, Int.natCast_sub (by omega)]; rfl
              have P3 := Lib.hid p3
              clear p3
              go_wp2
              go_loopw [9, 10] (fun x _ wr => ∃ k : Nat, 1 ≤ k ∧ k ≤ i ∧ (m = 0 → k = 1) ∧ x = .int .i64 k ∧ (∃ f, TabAt w.heap.size l s f wr ∧ Done l s m i f ∧ f i m = bst i m (k - 1)) ∧ Below w.heap.size w wr ∧ w.heap.size + 1 + l < wr.heap.size) (fun x _ _ => i - (intOf x).toNat)
              case atStart =>
                refine ⟨1, by omega, by omega, fun _ => rfl, rfl, ⟨upd f1 i m (bst i m 0), ?_, ⟨fun j => ?_, fun j => ?_, fun a b ha hb => ?_, fun a ha => ?_⟩, upd_same _ _ _ _⟩, hB.setCell (by simp; omega) _, by simpa [World.setCell] using hz⟩
                · rw [P3.out]; exact hT.set (upd_same _ _ _ _) (upd_ne _ _ _ _)
                · rw [upd_ne _ _ _ _ _ _ (.inl (by omega))]; exact hD.z0 j
                · rw [upd_ne _ _ _ _ _ _ (.inl (by omega))]; exact hD.z1 j
                · rw [upd_ne _ _ _ _ _ _ (.inr (by omega))]; exact hD.old a b ha hb
                · rw [upd_ne _ _ _ _ _ _ (.inl (by omega))]; exact hD.now a ha
              case round =>
                clear hT hB hz hD q1 q2 q3 p1 p2
                obtain ⟨k, hk1, hk2, hk0, rfl, ⟨f2, hT, hD, hcur⟩, hB, hz⟩ := hrel
                have HK0 := Lib.hid hk0
                have HCUR := Lib.hid hcur
                clear hk0 hcur
                by_cases hgo : k < i ∧ 0 < m
                · obtain ⟨g1, g2⟩ := hgo
                  have c1 : (k : Int) < (i : Int) := by omega
                  have c2 : (0 : Int) < (m : Int) := by omega
                  have v1 := hD.old (i - k) (m - 1) (by omega) (by omega)
                  have v2 := hD.now k g1
                  have q1 := hT.sl (show i - k ≤ l by omega)
                  have q2 := hT.at (show i - k ≤ l by omega) (show m - 1 ≤ s by omega)
                  have q3 := hT.sl (show k ≤ l by omega)
                  have q4 := hT.at (show k ≤ l by omega) hms
                  have q5 := hT.sl hlt
                  have q6 := hT.at hlt hms
                  have q7 := hT.free hlt m
                  rw [v1] at q2
                  rw [v2] at q4
                  rw [HCUR.out] at q6
                  clear v1 v2
                  have b1 := BM.T_bound (l := i - k) (s := m - 1) (by omega)
                  have b2 := BM.T_bound (l := k) (s := m) (by omega)
                  have b3 := bst_bound i m (k - 1) (by omega)
                  have hfk : (k : Int) + (BM.T (i - k) (m - 1) : Int) + (BM.T k m : Int) = (BM.fk i m k : Int) := by unfold BM.fk; omega
                  have HFK := Lib.hid hfk
                  clear hfk
                  have hnext : bst i m k = if BM.fk i m k < bst i m (k - 1) then BM.fk i m k else bst i m (k - 1) := by
                    obtain ⟨n, rfl⟩ : ∃ n, k = n + 1 := ⟨k - 1, by omega⟩
                    simp only [Nat.add_sub_cancel]; rfl
                  have HNX := Lib.hid hnext
                  clear hnext
                  have i1 : 0 ≤ (i : Int) - (k : Int) := by omega
                  have i2 : (i : Int) - (k : Int) < (l : Int) + 1 := by omega
                  have i3 : 0 ≤ (m : Int) - 1 := by omega
                  have i4 : (m : Int) - 1 < (s : Int) + 1 := by omega
                  have i5 : (k : Int) < (l : Int) + 1 := by omega
                  have i6 : (m : Int) < (s : Int) + 1 := by omega
                  by_cases hle : (k : Int) + (BM.T (i - k) (m - 1) : Int) + (BM.T k m : Int) < (bst i m (k - 1) : Int)
                  · go_wp2
                    have e1 : IntKind.i64.wrap ((i : Int) - (k : Int)) = (i : Int) - (k : Int) := IntWalk.i64_in _ (by omega)
                    have e2 : ((i : Int) - (k : Int)).toNat = i - k := by omega
                    have e3 : IntKind.i64.wrap ((m : Int) - 1) = (m : Int) - 1 := IntWalk.i64_in _ (by omega)
                    have e4 : ((m : Int) - 1).toNat = m - 1 := by omega
                    have e5 : IntKind.i64.wrap ((k : Int) + (BM.T (i - k) (m - 1) : Int)) = (k : Int) + (BM.T (i - k) (m - 1) : Int) := IntWalk.i64_in _ (by omega)
                    have e6 : IntKind.i64.wrap ((k : Int) + (BM.T (i - k) (m - 1) : Int) + (BM.T k m : Int)) = (k : Int) + (BM.T (i - k) (m - 1) : Int) + (BM.T k m : Int) := IntWalk.i64_in _ (by omega)
                    go_quiet (fail)
                    clear e1 e2 e3 e4 e5 e6
                    go_wp2
                    go_roundw
                    case rel =>
                      refine ⟨k + 1, by omega, by omega, fun h => by omega, by go_num, ⟨upd f2 i m (bst i m k), ?_, ⟨fun j => ?_, fun j => ?_, fun a b ha hb => ?_, fun a ha => ?_⟩, by rw [upd_same]; rfl⟩, (below_drewN hB _).setCell (by simp; omega) _, by simpa [World.setCell] using hz⟩
                      · rw [HFK.out]
                        refine (hT.drewN _).set ?_ (upd_ne _ _ _ _)
                        rw [upd_same, HNX.out, if_pos (by have := HFK.out; omega)]
                      · rw [upd_ne _ _ _ _ _ _ (.inl (by omega))]; exact hD.z0 j
                      · rw [upd_ne _ _ _ _ _ _ (.inl (by omega))]; exact hD.z1 j
                      · rw [upd_ne _ _ _ _ _ _ (.inr (by omega))]; exact hD.old a b ha hb
                      · rw [upd_ne _ _ _ _ _ _ (.inl (by omega))]; exact hD.now a ha
                    case measure => simp [intOf]; omega
                  · go_wp2
                    have e1 : IntKind.i64.wrap ((i : Int) - (k : Int)) = (i : Int) - (k : Int) := IntWalk.i64_in _ (by omega)
                    have e2 : ((i : Int) - (k : Int)).toNat = i - k := by omega
                    have e3 : IntKind.i64.wrap ((m : Int) - 1) = (m : Int) - 1 := IntWalk.i64_in _ (by omega)
                    have e4 : ((m : Int) - 1).toNat = m - 1 := by omega
                    have e5 : IntKind.i64.wrap ((k : Int) + (BM.T (i - k) (m - 1) : Int)) = (k : Int) + (BM.T (i - k) (m - 1) : Int) := IntWalk.i64_in _ (by omega)
                    have e6 : IntKind.i64.wrap ((k : Int) + (BM.T (i - k) (m - 1) : Int) + (BM.T k m : Int)) = (k : Int) + (BM.T (i - k) (m - 1) : Int) + (BM.T k m : Int) := IntWalk.i64_in _ (by omega)
                    go_quiet (fail)
                    clear e1 e2 e3 e4 e5 e6
                    go_wp2
                    go_roundw
                    case rel =>
                      exact ⟨k + 1, by omega, by omega, fun h => by omega, by go_num, ⟨f2, hT.drewN _, hD, by rw [HCUR.out]; simp only [Nat.add_sub_cancel]; rw [HNX.out, if_neg (by have := HFK.out; omega)]⟩, below_drewN hB _, hz⟩
                    case measure => simp [intOf]; omega
                · have hfin : f2 i m = (BM.T i m : Int) := by
                    rw [HCUR.out]
                    rcases Nat.eq_zero_or_pos m with rfl | h
                    · rw [HK0.out rfl]; show ((i * (i - 1) / 2 : Nat) : Int) = _; rw [half]
                    · obtain rfl : k = i := by omega
                      rw [bst_done k m h hi2]
                  have hD2 : Done l s m (i + 1) f2 := ⟨hD.z0, hD.z1, hD.old, fun a ha => by
                    by_cases e : a = i
                    · subst e; exact hfin
                    · exact hD.now a (by omega)⟩
                  clear hfin hD
                  by_cases g1 : (k : Int) < (i : Int)
                  · have g2 : ¬ (0 : Int) < (m : Int) := by omega
                    go_wp2
                    go_roundw
                    case rel => exact ⟨i + 1, by omega, by omega, by go_num, ⟨f2, hT, hD2⟩, hB, hz⟩
                    case measure => simp [intOf]; omega
                  · go_wp2
                    go_roundw
                    case rel => exact ⟨i + 1, by omega, by omega, by go_num, ⟨f2, hT, hD2⟩, hB, hz⟩
                    case measure => simp [intOf]; omega
            · obtain rfl : i = l + 1 := by omega
              have t3 : ¬ ((l : Int) + 1) ≤ (l : Int) := by omega
              have hD2 : Done l s (m + 1) 2 f1 := ⟨hD.z0, hD.z1, fun a b ha hb => by
                by_cases e : b = m
                · subst e; exact hD.now a (by omega)
                · exact hD.old a b ha (by omega), fun a ha => by
                rcases (show a = 0 ∨ a = 1 by omega) with rfl | rfl
                · rw [BM.T_nought, hD.z0]; rfl
                · rw [BM.T_one, hD.z1]; rfl⟩
              clear hD
              go_wp2
              go_roundw
              case rel => exact ⟨m + 1, by omega, by go_num, ⟨f1, hT, hD2⟩, hB, hz⟩
              case measure => simp [intOf]; omega
        · obtain rfl : m = s + 1 := by omega
          have t2 : ¬ ((s : Int) + 1) ≤ (s : Int) := by omega
          have hT2 : TabAt w.heap.size l s (fun i m => (BM.T i m : Int)) wr := ⟨hT.top, fun i hi => by
            have e : rowOf s (f0 i) = rowOf s (fun m => (BM.T i m : Int)) := by
              unfold rowOf
              apply List.map_congr_left
              intro b hb
              exact hD.old i b hi (by simpa using hb)
            have := hT.row i hi
            rw [e] at this
            exact this⟩
          clear hT hD
          go_wp2
          go_ret
          exact ⟨rfl, hT2, hB, hz⟩

end Go.Proofs.Ythbdhcbdhcgkfaa
