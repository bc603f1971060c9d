/- The walks of slices.BinarySearchFunc at blocks and of index's comparison. Condition: the blocks in order, the position of one of them. -/
import Derived.Test.YthllilkafdgheaaAi
namespace Go.Proofs.Ythllilkafdgheaa
open Go.RowKit
set_option linter.unusedVariables false
set_option linter.unusedSimpArgs false

theorem cmp43 (h f n k : Nat) (w : World) (hf : f ≤ 16777216) (hk : k ≤ 16777216) : Calls Try.prog 43 #[.agg #[.int .i64 h, .int .i64 f, .int .i64 n], .int .i64 k] w fun e w' => e = .returned (.int .i64 ((f : Int) - k)) ∧ Oth [] w w' := by
  have t1 : IntKind.i64.wrap ((f : Int) - (k : Int)) = (f : Int) - (k : Int) := by rw [IntKind.wrap_i64]; omega
  go_enter Try.func43, Try.ntmps43
  go_wp2_with fail
  go_ret
  exact ⟨rfl, (Oth.refl _ _).alloc _⟩

theorem Srt.lt {L : List Blk} (hs : Srt L) (hb : ∀ b, b ∈ L → 1 ≤ b.n) {i j : Nat} {x y : Blk} (hi : L[i]? = some x) (hj : L[j]? = some y) (h : i < j) : x.f < y.f := by
  obtain ⟨h1, h2⟩ := List.getElem?_eq_some_iff.1 hi
  obtain ⟨h3, h4⟩ := List.getElem?_eq_some_iff.1 hj
  have := List.pairwise_iff_getElem.1 hs i j h1 h3 h
  have := hb x (List.mem_of_getElem? hi)
  rw [h2, h4] at *; omega

set_option maxHeartbeats 1000000 in
theorem bs_blk (g n cap : Nat) (L : List Blk) (j : Nat) (x : Blk) (w : World) (hr : Row 45 3 g n cap (bcs L) w) (hn : n = L.length) (hb : ∀ b, b ∈ L → 1 ≤ b.n ∧ b.f ≤ 16777216) (hs : Srt L) (hx : L[j]? = some x) (h1 : n ≤ 1000) :
    Calls Try.prog 42 #[.slice (some ⟨g, 0, none⟩) n cap, .int .i64 x.f, .func (.func 43) #[] #[]] w fun e w' => e = .returned (.tuple #[.int .i64 j, .bool true]) ∧ Oth [] w w' := by
  have HLT : Hid (∀ t y, L[t]? = some y → (t < j → y.f < x.f) ∧ (j ≤ t → x.f ≤ y.f)) := fun t y hy => ⟨fun h => hs.lt (fun b h => (hb b h).1) hy hx h, fun h => by
    rcases Nat.lt_or_ge j t with h2 | h2
    · exact Nat.le_of_lt (hs.lt (fun b h => (hb b h).1) hx hy h2)
    · obtain rfl : j = t := by omega
      rw [hx] at hy; cases hy; exact Nat.le_refl _⟩
  have hjn : j < n := by rw [hn]; exact (List.getElem?_eq_some_iff.1 hx).1
  have hxf := (hb x (List.mem_of_getElem? hx)).2
  obtain ⟨k, hk⟩ : ∃ a, a = x.f := ⟨_, rfl⟩
  rw [← hk] at hxf ⊢
  have HK := Lib.hid hk
  have HX := Lib.hid hx
  have HR := Lib.hid hr
  have HN := Lib.hid hn
  have HB := Lib.hid hb
  clear hk hx hr hn hb hs
  go_enter Try.func42, Try.ntmps42
  go_wp2
  go_loopw [9, 10] (fun p q wr => ∃ lo hi : Nat, p = .int .i64 lo ∧ q = .int .i64 hi ∧ lo ≤ j ∧ j ≤ hi ∧ hi ≤ n ∧ Oth [] w wr) (fun p q _ => (intOf q - intOf p).toNat)
  case atStart => exact ⟨0, n, rfl, rfl, by omega, by omega, by omega, Oth.refl _ _⟩
  case round =>
    obtain ⟨lo, hi, rfl, rfl, hlh, hjh, hin, ho⟩ := hrel
    by_cases hlt : lo < hi
    · obtain ⟨m, hm⟩ : ∃ m, m = (lo + hi) / 2 := ⟨_, rfl⟩
      have hml : m < L.length := by have := HN.out; omega
      obtain ⟨y, hy⟩ : ∃ p, L[m]? = some p := ⟨_, List.getElem?_eq_getElem hml⟩
      have hR := HR.out.oth ho (by simp)
      obtain ⟨yh, hyh⟩ : ∃ a, a = y.h := ⟨_, rfl⟩
      obtain ⟨yf, hyf⟩ : ∃ a, a = y.f := ⟨_, rfl⟩
      obtain ⟨yn, hyn⟩ : ∃ a, a = y.n := ⟨_, rfl⟩
      have hc1 : wr.cell? ⟨g, m * 3, none⟩ = some (.int .i64 yh) := by rw [hyh]; exact hR.cell (bcs_get L m y hy).1
      have hc2 : wr.cell? ⟨g, m * 3 + 1, none⟩ = some (.int .i64 yf) := by rw [hyf]; exact hR.cell (bcs_get L m y hy).2.1
      have hc3 : wr.cell? ⟨g, m * 3 + 2, none⟩ = some (.int .i64 yn) := by rw [hyn]; exact hR.cell (bcs_get L m y hy).2.2
      have hyb : yf ≤ 16777216 := by rw [hyf]; exact (HB.out y (List.mem_of_getElem? hy)).2
      have hly := HLT.out m y hy
      rw [← hyf, ← HK.out] at hly
      have t1 : (lo : Int) < (hi : Int) := by omega
      have t2 : ((lo : Int) + (hi : Int)) / 2 = (m : Int) := by omega
      have t3 : (m : Int) < (n : Int) := by omega
      have HM := Lib.hid hm
      have HLY := Lib.hid hly
      clear hm hR hy hyh hyf hyn hly
      by_cases hak : yf < k
      · have t4 : (yf : Int) - (k : Int) < 0 := by omega
        go_wp2_with fail
        refine (cmp43 yh yf yn k _ hyb hxf).mono ?_
        rintro e w' ⟨rfl, ho'⟩
        go_wp2_with fail
        go_roundw
        case rel => exact ⟨m + 1, hi, by go_num, rfl, by have := HLY.out; omega, hjh, hin, ho.trans ho' (Fr.nil _ _)⟩
        case measure => have := HM.out; simp [intOf]; omega
      · have t4 : ¬ (yf : Int) - (k : Int) < 0 := by omega
        go_wp2_with fail
        refine (cmp43 yh yf yn k _ hyb hxf).mono ?_
        rintro e w' ⟨rfl, ho'⟩
        go_wp2_with fail
        go_roundw
        case rel => exact ⟨lo, m, rfl, rfl, hlh, by have := HLY.out; omega, by have := HM.out; omega, ho.trans ho' (Fr.nil _ _)⟩
        case measure => have := HM.out; simp [intOf]; omega
    · obtain rfl : hi = j := by omega
      obtain rfl : lo = hi := by omega
      have t1 : (lo : Int) < (n : Int) := by omega
      have hR := HR.out.oth ho (by simp)
      obtain ⟨yh, hyh⟩ : ∃ a, a = x.h := ⟨_, rfl⟩
      obtain ⟨yn, hyn⟩ : ∃ a, a = x.n := ⟨_, rfl⟩
      have hc1 : wr.cell? ⟨g, lo * 3, none⟩ = some (.int .i64 yh) := by rw [hyh]; exact hR.cell (bcs_get L lo x HX.out).1
      have hc2 : wr.cell? ⟨g, lo * 3 + 1, none⟩ = some (.int .i64 k) := by rw [HK.out]; exact hR.cell (bcs_get L lo x HX.out).2.1
      have hc3 : wr.cell? ⟨g, lo * 3 + 2, none⟩ = some (.int .i64 yn) := by rw [hyn]; exact hR.cell (bcs_get L lo x HX.out).2.2
      have HE : Hid (((k : Int) - (k : Int) == 0) = true) := by show _ = _; simp
      clear hR hyh hyn
      go_wp2_with fail
      refine (cmp43 yh k yn k _ hxf hxf).mono ?_
      rintro e w' ⟨rfl, ho'⟩
      go_wp2_with fail
      go_ret2
      refine ⟨?_, ho.trans ho' (Fr.nil _ _)⟩
      simp
end Go.Proofs.Ythllilkafdgheaa
