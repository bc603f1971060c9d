/- The walk of order.Mix in the twin. -/
import Derived.Test.YtminoelijdpmeaaOa
import Derived.RegionTactic
import Derived.BigRegion
import Derived.IntWalk
namespace Go.Proofs.Ytminoelijdpmeaa
open Go.RowKit
set_option linter.unusedVariables false

def swapL (L : List Int) (i j : Nat) : List Int := (L.set i (L.getD j 0)).set j (L.getD i 0)
/-- The items behind j exchanges. -/
def mixSt (n : Nat) (D : List Int) : Nat → List Int
  | 0 => (List.range n).map Int.ofNat
  | j + 1 => swapL (mixSt n D j) (n - 1 - j) ((D.getD j 0).toNat % (n - j))
def mixL (n : Nat) (D : List Int) : List Int := mixSt n D (n - 1)
theorem swapL_length (L : List Int) (i j : Nat) : (swapL L i j).length = L.length := by simp [swapL]
theorem mixSt_length (n : Nat) (D : List Int) (j : Nat) : (mixSt n D j).length = n := by
  induction j with
  | zero => simp [mixSt]
  | succ j ih => rw [mixSt, swapL_length, ih]
theorem mixL_length (n : Nat) (D : List Int) : (mixL n D).length = n := mixSt_length n D _

/-- The first k places numbered. -/
def iota (n k : Nat) : List Int := (List.range n).map fun t => if t < k then (t : Int) else 0
theorem iota_length (n k : Nat) : (iota n k).length = n := by simp [iota]
theorem iota_get (n k t : Nat) (h : t < n) : (iota n k)[t]? = some (if t < k then (t : Int) else 0) := by simp [iota, h]
theorem iota_zero (n : Nat) : iota n 0 = List.replicate n 0 := by
  apply List.ext_getElem?; intro t
  by_cases h : t < n
  · rw [iota_get n 0 t h]; simp [h]
  · rw [List.getElem?_eq_none (by simp [iota]; omega), List.getElem?_eq_none (by simp; omega)]
theorem iota_succ (n k : Nat) (h : k < n) : (iota n k).set k (k : Int) = iota n (k + 1) := by
  apply List.ext_getElem?; intro t
  by_cases ht : t < n
  · rw [List.getElem?_set, iota_length, iota_get n k t ht, iota_get n (k + 1) t ht]
    by_cases e : k = t
    · subst e; rw [if_pos rfl, if_pos h, if_pos (by omega)]
    · rw [if_neg e]
      by_cases e2 : t < k
      · rw [if_pos e2, if_pos (by omega)]
      · rw [if_neg e2, if_neg (by omega)]
  · rw [List.getElem?_eq_none (by simp [iota]; omega), List.getElem?_eq_none (by simp [iota]; omega)]
theorem iota_full (n : Nat) (D : List Int) : iota n n = mixSt n D 0 := by
  unfold iota mixSt
  apply List.map_congr_left
  intro t ht
  rw [if_pos (by simpa using ht)]; rfl

theorem make_ints (n : Nat) (h2 : n ≤ 100000) (w : World) :
    (Instr.makeSlice 24 (.int .i64 n) (.int .i64 n)).run Tw w = .ok (.slice (some ⟨w.heap.size, 0, none⟩) n n) (w.alloc (.cells (intCells (List.replicate n 0)) 3)) := by
  have info3 : (Tw.info? 3).map (fun i => (i.zero, i.size, i.bytes)) = some (some (.int .i64 0), 1, 8) := by kernel_rfl
  obtain ⟨i0, hi, hz0, hz1, hz2⟩ := info_parts info3
  have h := run_make (P := Tw) w 24 3 i0 (.int .i64 0) (show Tw.underlying 24 = some (.slice 3) from Try.underlying24) hi hz0 .i64 .i64 n n (by omega) (by omega) (by rw [hz2]; omega) (by omega)
  rw [h, hz1]
  simp only [Int.toNat_natCast]
  congr 3
  apply Array.toList_inj.1
  simp [Value.cells, toList_madeCells_one, intCells]

set_option maxHeartbeats 400000 in
theorem mix_no (n : Int) (v : Value) (w : World) (h : n < 0 ∨ 1024 < n) :
    Calls Tw 9 #[.int .i64 n, v] w fun e w' => e = .returned (.tuple #[.slice none 0 0, .int .i64 11]) ∧ w = w' := by
  rcases h with h | h
  · go_enter Tw.func9, Try.ntmps9
    go_wp2
    go_ret2
    exact ⟨rfl, rfl⟩
  · have h' : ¬ n < 0 := by omega
    go_enter Tw.func9, Try.ntmps9
    go_wp2
    go_ret2
    exact ⟨rfl, rfl⟩

theorem mix_step (n : Nat) (D : List Int) (j a : Nat) (d : Int) (h : a + 1 + j = n) (hd : D.getD j 0 = d) (h0 : 0 ≤ d) :
    ∃ wi : Nat, d % ((a : Int) + 1) = (wi : Int) ∧ wi ≤ a ∧ ∀ x y, (mixSt n D j)[a]? = some x → (mixSt n D j)[wi]? = some y → mixSt n D (j + 1) = ((mixSt n D j).set a y).set wi x := by
  refine ⟨d.toNat % (a + 1), ?_, ?_, fun x y hx hy => ?_⟩
  · obtain ⟨k, rfl⟩ : ∃ k : Nat, d = k := ⟨d.toNat, by omega⟩
    simp
  · have := Nat.mod_lt d.toNat (show 0 < a + 1 by omega); omega
  · have e1 : n - 1 - j = a := by omega
    have e2 : n - j = a + 1 := by omega
    rw [mixSt, e1, e2, hd]
    unfold swapL
    rw [List.getD_eq_getElem?_getD, List.getD_eq_getElem?_getD, hx, hy]; rfl

set_option maxHeartbeats 1600000 in
theorem mix_yes (n : Nat) (v : Value) (D : List Int) (w : World) (h0 : 1 ≤ n) (hn : n ≤ 1024) (hd : D.length ≤ 100000) (hD : Reads .u64 v D w) (hw : ∀ x ∈ D, 0 ≤ x ∧ x < 18446744073709551616) :
    Calls Tw 9 #[.int .i64 n, v] w fun e w' => e = .returned (.tuple #[.slice (some ⟨w.heap.size, 0, none⟩) n n, .int .i64 0]) ∧ RowAt w.heap.size (mixL n D) w' ∧ Below w.heap.size w w' ∧ w.heap.size < w'.heap.size := by
  obtain ⟨b, c, hv, hb⟩ := hD.parts
  have hmk := make_ints n (by omega)
  have HW := Lib.hid hw
  clear hw
  obtain ⟨m, hM⟩ : ∃ m, m = D.length := ⟨_, rfl⟩
  rw [← hM] at hv hd hb
  have HM := Lib.hid hM
  clear hM
  have h1 : ¬ (n : Int) < 0 := by omega
  have h2 : ¬ 1024 < (n : Int) := by omega
  subst hv
  have HB := Lib.hid hb
  clear hD hb
  go_enter Tw.func9, Try.ntmps9
  go_wp2
  go_loopw [22] (fun x wr => ∃ i : Nat, i ≤ n ∧ x = .int .i64 i ∧ RowAt w.heap.size (iota n i) wr ∧ Below w.heap.size w wr) (fun x _ => n - (intOf x).toNat)
  case atStart => exact ⟨0, by omega, rfl, by rw [iota_zero]; exact heap_alloc_new _ _, (Below.refl _ _).alloc (Nat.le_refl _) _⟩
  case round =>
    obtain ⟨i, hi, rfl, hR, hB⟩ := hrel
    by_cases hlt : i < n
    · have t1 : (i : Int) < (n : Int) := by omega
      have q1 := hR.cell (iota_get n i i hlt)
      have q2 := hR.free i
      go_wp2
      go_roundw
      case rel => exact ⟨i + 1, by omega, by go_num, by rw [← iota_succ n i hlt]; exact hR.set i i, hB.setCell (Nat.le_refl _) _⟩
      case measure => simp [intOf]; omega
    · obtain rfl : i = n := by omega
      rw [iota_full i D] at hR
      have t1 : ¬ (i : Int) < (i : Int) := by omega
      go_wp2
      go_loopw [8] (fun x wr => ∃ j a : Nat, a + 1 + j = i ∧ x = .int .i64 a ∧ RowAt w.heap.size (mixSt i D j) wr ∧ Below w.heap.size w wr) (fun x _ => (intOf x).toNat)
      case atStart => exact ⟨0, i - 1, by omega, by go_num, hR, hB⟩
      case round =>
        clear hR hB
        obtain ⟨j, a, hja, rfl, hR, hB⟩ := hrel
        by_cases hge : 1 ≤ a
        · have t2 : 1 ≤ (a : Int) := by omega
          have e1 : (i : Int) - 1 - (a : Int) = (j : Int) := by omega
          by_cases hjm : j < m
          · have t3 : (j : Int) < (m : Int) := by omega
            obtain ⟨g, off, rfl, hg, hc⟩ := HB.out (by omega)
            obtain ⟨d, hdj⟩ : ∃ d, D[j]? = some d := ⟨_, List.getElem?_eq_getElem (by have := HM.out; omega)⟩
            have q0 : wr.cell? ⟨g, off + j, none⟩ = some (.int .u64 d) := by rw [hB.cell hg]; exact hc j d hdj
            have HC := Lib.hid hc
            have HDJ := Lib.hid hdj
            obtain ⟨d0, d1⟩ := HW.out d (List.mem_of_getElem? hdj)
            clear hc hdj
            obtain ⟨wi, hwi, hwa, hst⟩ := mix_step i D j a d hja (by rw [List.getD_eq_getElem?_getD, HDJ.out]; rfl) d0
            obtain ⟨x, hx⟩ : ∃ x, (mixSt i D j)[a]? = some x := ⟨_, List.getElem?_eq_getElem (by rw [mixSt_length]; omega)⟩
            obtain ⟨y, hy⟩ : ∃ y, (mixSt i D j)[wi]? = some y := ⟨_, List.getElem?_eq_getElem (by rw [mixSt_length]; omega)⟩
            have HST := Lib.hid (hst x y hx hy)
            have q1 := hR.cell hx
            have q2 := hR.cell hy
            have q3 := hR.free a
            have q4 := hR.free wi
            have HR := Lib.hid hR
            have HBl := Lib.hid hB
            have HHx := Lib.hid hx
            have HHy := Lib.hid hy
            have b1 : (a : Int) < (i : Int) := by omega
            have b2 : (wi : Int) < (i : Int) := by omega
            clear hst hR hx hy hB
            by_cases haw : a = wi
            · subst haw
              obtain rfl : x = y := Option.some.inj (HHx.out.symm.trans HHy.out)
              go_wp2
              go_region
              all_goals
                go_wp2
                go_roundw
                case rel => exact ⟨j + 1, a - 1, by omega, by go_num, by rw [HST.out]; exact ((HR.out.drew.set a x).set a x), ((HBl.out.drew).setCell (Nat.le_refl _) _).setCell (Nat.le_refl _) _⟩
                case measure => simp [intOf]; omega
            · go_wp2
              go_region
              all_goals
                go_wp2
                go_roundw
                case rel =>
                  refine ⟨j + 1, a - 1, by omega, by go_num, ?_, ((HBl.out.drew).setCell (Nat.le_refl _) _).setCell (Nat.le_refl _) _⟩
                  rw [HST.out]
                  first | exact ((HR.out.drew.set a y).set wi x) | (rw [List.set_comm _ _ haw]; exact ((HR.out.drew.set wi x).set a y))
                case measure => simp [intOf]; omega
          · have t3 : ¬ (j : Int) < (m : Int) := by omega
            obtain ⟨wi, hwi, hwa, hst⟩ := mix_step i D j a 0 hja (by rw [List.getD_eq_getElem?_getD, List.getElem?_eq_none (by have := HM.out; omega)]; rfl) (by omega)
            obtain rfl : wi = 0 := by simp at hwi; omega
            obtain ⟨x, hx⟩ : ∃ x, (mixSt i D j)[a]? = some x := ⟨_, List.getElem?_eq_getElem (by rw [mixSt_length]; omega)⟩
            obtain ⟨y, hy⟩ : ∃ y, (mixSt i D j)[0]? = some y := ⟨_, List.getElem?_eq_getElem (by rw [mixSt_length]; omega)⟩
            have HST := Lib.hid (hst x y hx hy)
            have q1 := hR.cell hx
            have q2 := hR.cell hy
            have q3 := hR.free a
            have q4 := hR.free 0
            have HR := Lib.hid hR
            have HBl := Lib.hid hB
            have b1 : (a : Int) < (i : Int) := by omega
            have b2 : 0 < i := by omega
            have haw : a ≠ 0 := by omega
            have haw2 : ¬ a = 0 := by omega
            have haw3 : ¬ 0 = a := by omega
            clear hst hR hx hy hB hwi
            go_wp2
            go_region
            all_goals
              go_wp2
              go_roundw
              case rel =>
                refine ⟨j + 1, a - 1, by omega, by go_num, ?_, ((HBl.out.drew).setCell (Nat.le_refl _) _).setCell (Nat.le_refl _) _⟩
                rw [HST.out]
                first | exact ((HR.out.drew.set a y).set 0 x) | (rw [List.set_comm _ _ haw]; exact ((HR.out.drew.set 0 x).set a y))
              case measure => simp [intOf]; omega
        · obtain rfl : a = 0 := by omega
          have t2 : ¬ 1 ≤ ((0 : Nat) : Int) := by omega
          have HR := Lib.hid hR
          go_wp2
          go_ret2
          refine ⟨rfl, ?_, hB, HR.out.lt⟩
          have e : j = i - 1 := by omega
          rw [mixL, ← e]; exact HR.out
end Go.Proofs.Ytminoelijdpmeaa
