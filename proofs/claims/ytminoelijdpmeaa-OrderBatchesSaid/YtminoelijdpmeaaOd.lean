/- The walk of athanorref25.Mix in the twin; order.Mix of no items. -/
import Derived.Test.YtminoelijdpmeaaOc
namespace Go.Proofs.Ytminoelijdpmeaa
open Go.RowKit
set_option linter.unusedVariables false

theorem Tw.und24 : Tw.underlying 24 = some (.slice 3) := Try.underlying24
theorem Tw.und22 : Tw.underlying 22 = some (.slice 41) := Try.underlying22
theorem Tw.und34 : Tw.underlying 34 = some (.slice 24) := Try.underlying34
theorem Tw.info3 : (Tw.info? 3).map (fun i => (i.zero, i.size, i.bytes)) = some (some (.int .i64 0), 1, 8) := by kernel_rfl
theorem Tw.info41 : (Tw.info? 41).map (fun i => (i.zero, i.size, i.bytes)) = some (some (.int .u64 0), 1, 8) := by kernel_rfl
theorem Tw.info24 : (Tw.info? 24).map (fun i => (i.zero, i.size, i.bytes)) = some (some (.slice none 0 0), 1, 24) := by kernel_rfl

/-- A row whose first places hold these ints. -/
def RowPre (g : Nat) (L : List Int) (w : World) : Prop := ∃ cur : Array Value, w.heap[g]? = some (.cells cur 3 (0, 0)) ∧ cur.toList.take L.length = L.map (Value.int .i64)
section
variable {g : Nat} {L : List Int} {w : World}
theorem RowPre.lt (h : RowPre g L w) : g < w.heap.size := let ⟨_, h, _⟩ := h; lt_of_block h
theorem RowPre.cell (h : RowPre g L w) {j : Nat} {x : Int} (hj : L[j]? = some x) : w.cell? ⟨g, j, none⟩ = some (.int .i64 x) := by
  obtain ⟨cur, h1, h2⟩ := h
  have hlt := (List.getElem?_eq_some_iff.1 hj).1
  have : (cur.toList.take L.length)[j]? = some (.int .i64 x) := by rw [h2]; simp [hj]
  rw [List.getElem?_take, if_pos hlt] at this
  simpa [World.cell?, h1] using this
theorem RowPre.free (h : RowPre g L w) (j : Nat) : w.frozen? ⟨g, j, none⟩ = false := by obtain ⟨cur, h, _⟩ := h; simp [World.frozen?, h]
theorem RowPre.set (h : RowPre g L w) (j : Nat) (x : Int) : RowPre g (L.set j x) (w.setCell ⟨g, j, none⟩ (.int .i64 x)) := by
  obtain ⟨cur, h1, h2⟩ := h
  refine ⟨_, row_setCell h1, ?_⟩
  rw [List.length_set, Array.toList_setIfInBounds, List.take_set, h2, List.map_set]
theorem RowPre.below (h : RowPre g L w) {w' : World} {B : Nat} (hg : g < B) (hb : Below B w w') : RowPre g L w' := by
  obtain ⟨cur, h1, h2⟩ := h
  exact ⟨cur, by rw [hb.block g hg]; exact h1, h2⟩
theorem RowPre.drewN (h : RowPre g L w) (n : Nat) : RowPre g L (w.drewN n) := h
theorem RowPre.reads (h : RowPre g L w) {cap : Nat} (hc : L.length ≤ cap) : Reads .i64 (.slice (some ⟨g, 0, none⟩) L.length cap) L w := by
  rcases Nat.eq_zero_or_pos L.length with h0 | h0
  · exact .inl ⟨List.eq_nil_of_length_eq_zero h0, _, _, by rw [h0]⟩
  · exact .inr ⟨g, 0, _, rfl, h0, hc, h.lt, fun i x hi => by rw [Nat.zero_add]; exact h.cell hi⟩
end

theorem make_none (w : World) : (Instr.makeSlice 24 (.int .i64 0) (.int .i64 0)).run Tw w = .ok (.slice (some ⟨w.heap.size, 0, none⟩) 0 0) (w.alloc (.cells (intCells (List.replicate 0 0)) 3)) := make_ints 0 (by omega) w

set_option maxHeartbeats 400000 in
theorem mix_zero (v : Value) (w : World) :
    Calls Tw 9 #[.int .i64 0, v] w fun e w' => e = .returned (.tuple #[.slice (some ⟨w.heap.size, 0, none⟩) 0 0, .int .i64 0]) ∧ RowAt w.heap.size [] w' ∧ Below w.heap.size w w' ∧ w.heap.size < w'.heap.size := by
  have hmk := make_none
  go_enter Tw.func9, Try.ntmps9
  go_wp2
  go_loopw [22] (fun x wr => x = .int .i64 0 ∧ wr = w.alloc (.cells (intCells (List.replicate 0 0)) 3)) (fun _ _ => 0)
  case atStart => exact ⟨rfl, rfl⟩
  case round =>
    obtain ⟨rfl, rfl⟩ := hrel
    go_wp2
    go_loopw [8] (fun x wr => x = .int .i64 (-1) ∧ wr = w.alloc (.cells (intCells (List.replicate 0 0)) 3)) (fun _ _ => 0)
    case atStart => exact ⟨rfl, rfl⟩
    case round =>
      obtain ⟨rfl, rfl⟩ := hrel
      go_wp2
      go_ret2
      exact ⟨rfl, heap_alloc_new _ _, (Below.refl _ _).alloc (Nat.le_refl _) _, by simp⟩

def numV (k : Nat) : List Value := (List.range k).map fun (t : Nat) => Value.int .i64 (t : Int)
theorem numV_succ (k : Nat) : numV (k + 1) = numV k ++ [Value.int .i64 (k : Int)] := by simp [numV, List.range_succ]
theorem numV_mix (n : Nat) (D : List Int) : numV n = (mixSt n D 0).map (Value.int .i64) := by
  simp [numV, mixSt, Function.comp_def]

set_option maxHeartbeats 400000 in
theorem rmix_zero (v : Value) (w : World) : Calls Tw 11 #[.int .i64 0, v] w fun e w' => e = .returned (.slice none 0 0) ∧ w = w' := by
  go_enter Tw.func11, Try.ntmps11
  go_wp2
  go_loop [5, 6] (fun u x => u = .slice none 0 0 ∧ x = .int .i64 0) (fun _ _ => 0)
  case atStart => exact ⟨rfl, rfl⟩
  case round =>
    obtain ⟨rfl, rfl⟩ := hrel
    go_wp2
    go_loop [8] (fun x => x = .int .i64 (-1)) (fun _ => 0)
    case atStart => rfl
    case round =>
      subst hrel
      go_wp2
      go_ret
      exact ⟨rfl, rfl⟩

set_option maxHeartbeats 1600000 in
theorem rmix_yes (n : Nat) (v : Value) (D : List Int) (w : World) (h0 : 1 ≤ n) (hn : n ≤ 1024) (hd : D.length ≤ 100000) (hD : Reads .u64 v D w) (hw : ∀ x ∈ D, 0 ≤ x ∧ x < 18446744073709551616) :
    Calls Tw 11 #[.int .i64 n, v] w fun e w' => ∃ g cap, e = .returned (.slice (some ⟨g, 0, none⟩) n cap) ∧ n ≤ cap ∧ RowPre g (mixL n D) w' ∧ Below w.heap.size w w' := by
  obtain ⟨b, c, hv, hb⟩ := hD.parts
  obtain ⟨i0, hi, hz0, hz1, hz2⟩ := info_parts Tw.info3
  have HW := Lib.hid hw
  clear hw
  obtain ⟨m, hM⟩ : ∃ m, m = D.length := ⟨_, rfl⟩
  rw [← hM] at hv hd hb
  have HM := Lib.hid hM
  clear hM
  subst hv
  have HB := Lib.hid hb
  clear hD hb
  go_enter Tw.func11, Try.ntmps11
  go_wp2
  go_loopw [5, 6] (fun u x wr => ∃ i : Nat, i ≤ n ∧ x = .int .i64 i ∧ wr.ownsRow w.heap.size 3 1 u i (numV i) ∧ Below w.heap.size w wr) (fun _ x _ => n - (intOf x).toNat)
  case atStart => exact ⟨0, by omega, rfl, World.ownsRow_nil _ _ _ _, Below.refl _ _⟩
  case round =>
    obtain ⟨i, hi', rfl, hown, hB⟩ := hrel
    have hsz := hB.size
    by_cases hlt : i < n
    · have t1 : (i : Int) < (n : Int) := by omega
      go_wp2_with (at_builtin; refine wpList_append_own _ rfl _ _ 24 rfl w.heap.size 3 i0 _ 1 8 Tw.und24 hi hz0 hz1 hz2 rfl (by decide) _ _ _ rfl (hown.alloc _) ⟨wr.heap.size, 0, none⟩ 1 1 [.int .i64 i] rfl rfl ?c1 ?c2 ?c3 ?c4 ?c5 ?_)
      case c1 =>
        intro j u hu
        match j with
        | 0 => simp at hu; subst hu; simp [Addr.add, World.cell?_alloc_new]
        | j + 1 => simp at hu
      case c2 => intro u hu; simp at hu; subst hu; rfl
      case c3 => unfold maxLen; omega
      case c4 => omega
      case c5 => simp; omega
      intro v' w1 hown1 hgrow1 _
      have hb1 : Below w.heap.size w w1 := (hB.alloc hsz _).grown hgrow1 (by simp; omega) (fun k hk => (hown.lt k hk).1)
      rw [← numV_succ] at hown1
      clear hown hgrow1 hB
      go_wp2
      go_roundw
      case rel => exact ⟨i + 1, by omega, by go_num, hown1, hb1⟩
      case measure => simp [intOf]; omega
    · obtain rfl : i = n := by omega
      have t1 : ¬ (i : Int) < (i : Int) := by omega
      obtain ⟨hl, ⟨_, h⟩ | ⟨g, cap, cur, rfl, hg, hcur, hcap, hmx, hsc, htk⟩⟩ := hown
      · omega
      have hR : RowPre g (mixSt i D 0) wr := ⟨cur, hcur, by rw [mixSt_length, ← numV_mix]; simpa using htk⟩
      clear hl hcur hmx hsc htk
      go_wp2
      go_loopw [7, 8] (fun y x wr => ∃ j a : Nat, a + 1 + j = i ∧ x = .int .i64 a ∧ y = .int .i64 j ∧ RowPre g (mixSt i D j) wr ∧ Below w.heap.size w wr) (fun _ x _ => (intOf x).toNat)
      case atStart => exact ⟨0, i - 1, by omega, by go_num, rfl, hR, hB⟩
      case round =>
        clear hR hB
        obtain ⟨j, a, hja, rfl, rfl, hR, hB⟩ := hrel
        by_cases hge : 1 ≤ a
        · have t2 : 1 ≤ (a : Int) := by omega
          by_cases hjm : j < m
          · have t3 : (j : Int) < (m : Int) := by omega
            obtain ⟨gd, off, rfl, hgd, hc⟩ := HB.out (by omega)
            obtain ⟨d, hdj⟩ : ∃ d, D[j]? = some d := ⟨_, List.getElem?_eq_getElem (by have := HM.out; omega)⟩
            have q0 : wr.cell? ⟨gd, off + j, none⟩ = some (.int .u64 d) := by rw [hB.cell hgd]; exact hc j d hdj
            have HC := Lib.hid hc
            have HDJ := Lib.hid hdj
            obtain ⟨d0, d1⟩ := HW.out d (List.mem_of_getElem? hdj)
            clear hc hdj
            obtain ⟨wi, hwi, hwa, hst⟩ := mix_step i D j a d hja (by rw [List.getD_eq_getElem?_getD, HDJ.out]; rfl) d0
            obtain ⟨x, hx⟩ : ∃ x, (mixSt i D j)[a]? = some x := ⟨_, List.getElem?_eq_getElem (by rw [mixSt_length]; omega)⟩
            obtain ⟨y, hy⟩ : ∃ y, (mixSt i D j)[wi]? = some y := ⟨_, List.getElem?_eq_getElem (by rw [mixSt_length]; omega)⟩
            have HST := Lib.hid (hst x y hx hy)
            have q1 := hR.cell hx
            have q2 := hR.cell hy
            have q3 := hR.free a
            have q4 := hR.free wi
            have HR := Lib.hid hR
            have HBl := Lib.hid hB
            have HHx := Lib.hid hx
            have HHy := Lib.hid hy
            have b1 : (a : Int) < (i : Int) := by omega
            have b2 : (wi : Int) < (i : Int) := by omega
            clear hst hR hx hy hB
            by_cases haw : a = wi
            · subst haw
              obtain rfl : x = y := Option.some.inj (HHx.out.symm.trans HHy.out)
              go_wp2
              go_roundw
              case rel => exact ⟨j + 1, a - 1, by omega, by go_num, by go_num, by rw [HST.out]; exact ((HR.out.set a x).set a x), (HBl.out.setCell hg _).setCell hg _⟩
              case measure => simp [intOf]; omega
            · go_wp2
              go_roundw
              case rel => exact ⟨j + 1, a - 1, by omega, by go_num, by go_num, by rw [HST.out]; exact ((HR.out.set a y).set wi x), (HBl.out.setCell hg _).setCell hg _⟩
              case measure => simp [intOf]; omega
          · have t3 : ¬ (j : Int) < (m : Int) := by omega
            obtain ⟨wi, hwi, hwa, hst⟩ := mix_step i D j a 0 hja (by rw [List.getD_eq_getElem?_getD, List.getElem?_eq_none (by have := HM.out; omega)]; rfl) (by omega)
            obtain rfl : wi = 0 := by simp at hwi; omega
            obtain ⟨x, hx⟩ : ∃ x, (mixSt i D j)[a]? = some x := ⟨_, List.getElem?_eq_getElem (by rw [mixSt_length]; omega)⟩
            obtain ⟨y, hy⟩ : ∃ y, (mixSt i D j)[0]? = some y := ⟨_, List.getElem?_eq_getElem (by rw [mixSt_length]; omega)⟩
            have HST := Lib.hid (hst x y hx hy)
            have q1 := hR.cell hx
            have q2 := hR.cell hy
            have q3 := hR.free a
            have q4 := hR.free 0
            have HR := Lib.hid hR
            have HBl := Lib.hid hB
            have b1 : (a : Int) < (i : Int) := by omega
            have b2 : 0 < i := by omega
            have haw : a ≠ 0 := by omega
            have haw2 : ¬ a = 0 := by omega
            have haw3 : ¬ 0 = a := by omega
            clear hst hR hx hy hB hwi
            go_wp2
            go_roundw
            case rel => exact ⟨j + 1, a - 1, by omega, by go_num, by go_num, by rw [HST.out]; exact ((HR.out.set a y).set 0 x), (HBl.out.setCell hg _).setCell hg _⟩
            case measure => simp [intOf]; omega
        · obtain rfl : a = 0 := by omega
          have t2 : ¬ 1 ≤ ((0 : Nat) : Int) := by omega
          have HR := Lib.hid hR
          clear hR
          go_wp2
          go_ret
          refine ⟨g, cap, rfl, hcap, ?_, hB⟩
          have e : j = i - 1 := by omega
          rw [mixL, ← e]; exact HR.out
end Go.Proofs.Ytminoelijdpmeaa
