/- The walk of the reference's Sorted. Condition: the list reads as blocks of different positions. -/
import Derived.Test.YthllilkafdgheaaCc
namespace Go.Proofs.Ythllilkafdgheaa
open Go.RowKit
set_option linter.unusedVariables false
set_option linter.unusedSimpArgs false

/-- T is R in the order of the positions. -/
structure SrtOf (R T : List RB) : Prop where
  len : T.length = R.length
  mem : ∀ x, x ∈ R ↔ x ∈ T
  srt : ∀ (i j : Nat) (x y : RB), i < j → T[i]? = some x → T[j]? = some y → x.b.f < y.b.f

/-- Behind the first k of T. -/
def El (T : List RB) (k : Nat) (x : RB) : Prop := ∀ y, 1 ≤ k → T[k - 1]? = some y → y.b.f < x.b.f
/-- The least of the first i of R that lies behind. -/
def Bst (R T : List RB) (k i : Nat) (best : Int) : Prop :=
  (best = -1 ∧ ∀ (j : Nat) (x : RB), j < i → R[j]? = some x → ¬ El T k x) ∨ (∃ (j : Nat) (z : RB), best = j ∧ j < i ∧ R[j]? = some z ∧ El T k z ∧ ∀ (j' : Nat) (x : RB), j' < i → R[j']? = some x → El T k x → z.b.f ≤ x.b.f)
theorem Bst.start (R T : List RB) (k : Nat) : Bst R T k 0 (-1) := .inl ⟨rfl, fun j x hj => by omega⟩
theorem Bst.skip {R T : List RB} {k i : Nat} {best : Int} {x : RB} (h : Bst R T k i best) (hx : R[i]? = some x) (hn : ¬ El T k x) : Bst R T k (i + 1) best := by
  rcases h with ⟨rfl, h⟩ | ⟨j, z, rfl, h1, h2, h3, h4⟩
  · refine .inl ⟨rfl, fun j y hj hy => ?_⟩
    rcases Nat.lt_or_ge j i with h5 | h5
    · exact h j y h5 hy
    · obtain rfl : j = i := by omega
      rw [hx] at hy; cases hy; exact hn
  · refine .inr ⟨j, z, rfl, by omega, h2, h3, fun j' y hj hy he => ?_⟩
    rcases Nat.lt_or_ge j' i with h5 | h5
    · exact h4 j' y h5 hy he
    · obtain rfl : j' = i := by omega
      rw [hx] at hy; cases hy; exact absurd he hn
theorem Bst.keep {R T : List RB} {k i j : Nat} {x z : RB} (h : Bst R T k i j) (hz : R[j]? = some z) (hx : R[i]? = some x) (hn : z.b.f ≤ x.b.f) : Bst R T k (i + 1) j := by
  rcases h with ⟨h, _⟩ | ⟨j', z', he, h1, h2, h3, h4⟩
  · omega
  · obtain rfl : j = j' := by omega
    rw [hz] at h2; cases h2
    refine .inr ⟨j, z, rfl, by omega, hz, h3, fun j' y hj hy he => ?_⟩
    rcases Nat.lt_or_ge j' i with h5 | h5
    · exact h4 j' y h5 hy he
    · obtain rfl : j' = i := by omega
      rw [hx] at hy; cases hy; exact hn
theorem Bst.first {R T : List RB} {k i : Nat} {x : RB} (h : Bst R T k i (-1)) (hx : R[i]? = some x) (he : El T k x) : Bst R T k (i + 1) i := by
  rcases h with ⟨_, h⟩ | ⟨j', z', he', _⟩
  · refine .inr ⟨i, x, rfl, by omega, hx, he, fun j' y hj hy hey => ?_⟩
    rcases Nat.lt_or_ge j' i with h5 | h5
    · exact absurd hey (h j' y h5 hy)
    · obtain rfl : j' = i := by omega
      rw [hx] at hy; cases hy; exact Nat.le_refl _
  · omega
theorem Bst.less {R T : List RB} {k i j : Nat} {x z : RB} (h : Bst R T k i j) (hz : R[j]? = some z) (hx : R[i]? = some x) (he : El T k x) (hn : x.b.f < z.b.f) : Bst R T k (i + 1) i := by
  rcases h with ⟨h, _⟩ | ⟨j', z', he', h1, h2, h3, h4⟩
  · omega
  · obtain rfl : j = j' := by omega
    rw [hz] at h2; cases h2
    refine .inr ⟨i, x, rfl, by omega, hx, he, fun j' y hj hy hey => ?_⟩
    rcases Nat.lt_or_ge j' i with h5 | h5
    · have := h4 j' y h5 hy hey; omega
    · obtain rfl : j' = i := by omega
      rw [hx] at hy; cases hy; exact Nat.le_refl _
theorem Bst.done {R T : List RB} {k : Nat} {best : Int} (h : Bst R T k R.length best) (hT : SrtOf R T) (hk : k < R.length) : ∃ (j : Nat) (z : RB), best = j ∧ R[j]? = some z ∧ T[k]? = some z := by
  obtain ⟨t, ht⟩ : ∃ t, T[k]? = some t := ⟨_, List.getElem?_eq_getElem (by rw [hT.len]; exact hk)⟩
  obtain ⟨jt, hjt⟩ := List.mem_iff_getElem?.1 ((hT.mem t).2 (List.mem_of_getElem? ht))
  have hjl := (List.getElem?_eq_some_iff.1 hjt).1
  have het : El T k t := fun y h1 hy => hT.srt (k - 1) k y t (by omega) hy ht
  rcases h with ⟨_, h⟩ | ⟨j, z, rfl, h1, h2, h3, h4⟩
  · exact absurd het (h jt t hjl hjt)
  · refine ⟨j, z, rfl, h2, ?_⟩
    have hle := h4 jt t hjl hjt het
    obtain ⟨m, hm⟩ := List.mem_iff_getElem?.1 ((hT.mem z).1 (List.mem_of_getElem? h2))
    rcases Nat.lt_trichotomy m k with h5 | h5 | h5
    · obtain ⟨y, hy⟩ : ∃ y, T[k - 1]? = some y := ⟨_, List.getElem?_eq_getElem (by rw [hT.len]; omega)⟩
      have h6 := h3 y (by omega) hy
      rcases Nat.lt_or_ge m (k - 1) with h7 | h7
      · have := hT.srt m (k - 1) z y h7 hm hy; omega
      · obtain rfl : m = k - 1 := by omega
        rw [hm] at hy; cases hy; omega
    · subst h5; exact hm
    · have := hT.srt k m t z h5 ht hm; omega
theorem Bst.which {R T : List RB} {k i : Nat} {best : Int} (h : Bst R T k i best) : best = -1 ∨ ∃ (j : Nat) (z : RB), best = j ∧ j < i ∧ R[j]? = some z := by
  rcases h with ⟨h, _⟩ | ⟨j, z, h, h1, h2, _⟩
  · exact .inl h
  · exact .inr ⟨j, z, h, h1, h2⟩
theorem El.zero (T : List RB) (x : RB) : El T 0 x := fun y h => by omega
theorem El.succ {T : List RB} {k : Nat} {x y : RB} (hy : T[k]? = some y) : El T (k + 1) x ↔ y.b.f < x.b.f := by
  constructor
  · intro h; exact h y (by omega) (by simpa using hy)
  · intro h y' _ hy'
    rw [Nat.add_sub_cancel, hy] at hy'; cases hy'; exact h
theorem owns_slice4 {w : World} {B : Nat} {e : TypeId} {n : Nat} {v : Value} {R : List RB} (h : w.ownsRow B e 4 v n (rcs R)) :
    ∃ b cap, v = .slice b n cap ∧ ∀ i x, R[i]? = some x → ∃ g, b = some ⟨g, 0, none⟩ ∧ w.cell? ⟨g, i * 4 + 1, none⟩ = some (.int .i64 x.b.f) := by
  have hl := h.1
  rw [rcs_length] at hl
  rcases Nat.eq_zero_or_pos n with h0 | h0
  · have hnil : R = [] := List.eq_nil_of_length_eq_zero (by omega)
    rcases h.2 with ⟨rfl, _⟩ | ⟨g, cap, cur, rfl, _⟩
    · exact ⟨none, 0, by rw [h0], fun i x hx => by simp [hnil] at hx⟩
    · exact ⟨_, cap, rfl, fun i x hx => by simp [hnil] at hx⟩
  · obtain ⟨g, cap, rfl, _, hr⟩ := row_of_owns h h0
    exact ⟨_, cap, rfl, fun i x hx => ⟨g, rfl, hr.cell (rcs_get R i x hx).2.1⟩⟩
/-- What a round of the inner loop finds. -/
structure SI (R T : List RB) (k n : Nat) (wk : World) (b x : Value) (wr : World) : Prop where
  mk' ::
  all : ∃ (i : Nat) (best : Int), i ≤ n ∧ x = .int .i64 i ∧ b = .int .i64 best ∧ Oth [] wk wr ∧ Bst R T k i best
theorem SI.mk {R T : List RB} {k n : Nat} {wk : World} {x : Value} {wr : World} (i : Nat) (best : Int) (h1 : i ≤ n) (h2 : x = .int .i64 i) (h3 : Oth [] wk wr) (h4 : Bst R T k i best) : Hid (SI R T k n wk (.int .i64 best) x wr) := SI.mk' ⟨i, best, h1, h2, rfl, h3, h4⟩
theorem rcs_take_succ {T : List RB} {k : Nat} {z : RB} (h : T[k]? = some z) : rcs (T.take (k + 1)) = rcs (T.take k) ++ [.int .i64 z.b.h, .int .i64 z.b.f, .int .i64 z.b.n, .slice z.base z.b.d.length z.c] := by
  rw [List.take_add_one, h, rcs_append]; rfl

set_option maxHeartbeats 4000000 in
set_option maxRecDepth 100000 in
theorem Sorted_ref (B : List Nat) (base : Option Addr) (n cap : Nat) (R T : List RB) (w : World) (hR : RdR B (.slice base n cap) R w) (h1 : n ≤ 1000) (hT : SrtOf R T) (hb : ∀ x, x ∈ R → x.b.f ≤ 16777216) :
    Calls Try.prog 39 #[.slice base n cap] w fun e w' => ∃ v, e = .returned v ∧ w'.ownsRow w.heap.size 77 4 v n (rcs T) ∧ Oth [] w w' := by
  obtain ⟨i0, hi, hz0, hz1, hz2⟩ := info_parts Try.info77
  have HR := Lib.hid hR
  have HN := Lib.hid hR.parts.1
  have HT := Lib.hid hT
  clear hR hT
  go_enter Try.func39, Try.ntmps39
  go_wp2_with fail
  go_loopw [3, 4] (fun v x wr => ∃ k : Nat, k ≤ n ∧ x = .int .i64 k ∧ Hid (wr.ownsRow w.heap.size 77 4 v k (rcs (T.take k))) ∧ Oth [] w wr) (fun _ x _ => (n - intOf x).toNat)
  case atStart => exact ⟨0, by omega, rfl, ⟨rfl, .inl ⟨rfl, rfl⟩⟩, Oth.refl _ _⟩
  case round =>
    obtain ⟨k, hkn, rfl, hown, ho⟩ := hrel
    by_cases hlt : k < n
    · have t1 : (k : Int) < (n : Int) := by omega
      obtain ⟨bo, co, rfl, hoc⟩ := owns_slice4 hown.out
      have HOC := Lib.hid hoc
      obtain ⟨wk, hwk⟩ : ∃ wk, wk = wr := ⟨_, rfl⟩
      clear hoc
      go_wp2_with fail
      rw [← hwk] at hown ho HOC ⊢
      clear hwk
      go_loopw [5, 6] (fun b x wr => Hid (SI R T k n wk b x wr)) (fun _ x _ => (n - intOf x).toNat)
      case atStart => exact SI.mk 0 (-1) (by omega) rfl (Oth.refl _ _) (Bst.start _ _ _)
      case round =>
        obtain ⟨i, best, hin, rfl, rfl, hoi, hbst'⟩ := hrel.out.all
        have hbst := Lib.hid hbst'
        clear hbst' hrel
        by_cases hit : i < n
        · have t2 : (i : Int) < (n : Int) := by omega
          have t3 : ¬ (i : Int) < 0 := by omega
          obtain ⟨x, hx⟩ : ∃ x, R[i]? = some x := ⟨_, List.getElem?_eq_getElem (by have := HN.out; omega)⟩
          obtain ⟨hzz, g, off, rfl, hg, d0, d1, d2, d3⟩ := ((HR.out.quiet ho).quiet hoi).at hx
          obtain ⟨xf, hxf⟩ : ∃ a, a = x.b.f := ⟨_, rfl⟩
          rw [← hxf] at d1
          have HX := Lib.hid hx
          have HXF := Lib.hid hxf
          clear hzz hg d0 d2 d3 hx hxf
          rcases Nat.eq_zero_or_pos k with hk0 | hk0
          · subst hk0
            have HE : Hid (El T 0 x) := El.zero _ _
            rcases hbst.out.which with rfl | ⟨j, z, rfl, hji, hz⟩
            · go_wp2_with fail
              go_quiet (fail)
              go_wp2_with fail
              go_quiet (fail)
              go_wp2_with fail
              go_roundw
              case rel => first | exact SI.mk (i + 1) i (by omega) (by go_num) (by first | exact (hoi.drewN _).drewN _ | exact hoi.drewN _ | exact hoi) (hbst.out.first HX.out HE.out) | ((repeat apply Exists.intro); exact ⟨SI.mk (i + 1) i (by omega) (by go_num) (by first | exact (hoi.drewN _).drewN _ | exact hoi.drewN _ | exact hoi) (hbst.out.first HX.out HE.out), rfl⟩)
              case measure => simp [intOf]; omega
            · obtain ⟨hz1, g', off', he', hz2, hz3, z1, hz4⟩ := ((HR.out.quiet ho).quiet hoi).at hz
              cases he'
              obtain ⟨zf, hzf⟩ : ∃ a, a = z.b.f := ⟨_, rfl⟩
              rw [← hzf] at z1
              have HZ := Lib.hid hz
              have HZF := Lib.hid hzf
              have j1 : ¬ (j : Int) < 0 := by omega
              have j2 : (j : Int) < (n : Int) := by omega
              have j3 : j < n := by omega
              clear hz hzf hz1 hz2 hz3 hz4
              by_cases hxz : xf < zf
              · have HB' : Hid (Bst R T 0 (i + 1) i) := hbst.out.less HZ.out HX.out HE.out (by rw [← HXF.out, ← HZF.out]; exact hxz)
                go_wp2_with fail
                go_quiet (fail)
                go_wp2_with fail
                have q1 : (xf : Int) < (zf : Int) := by omega
                have q2 : xf < zf := by omega
                have q3 : ¬ (j : Int) < 0 := by omega
                go_quiet (fail)
                go_wp2_with fail
                go_roundw
                case rel => first | exact SI.mk (i + 1) i (by omega) (by go_num) (by first | exact (hoi.drewN _).drewN _ | exact hoi.drewN _ | exact hoi) HB'.out | ((repeat apply Exists.intro); exact ⟨SI.mk (i + 1) i (by omega) (by go_num) (by first | exact (hoi.drewN _).drewN _ | exact hoi.drewN _ | exact hoi) HB'.out, rfl⟩)
                case measure => simp [intOf]; omega
              · have HB' : Hid (Bst R T 0 (i + 1) j) := hbst.out.keep HZ.out HX.out (by rw [← HXF.out, ← HZF.out]; omega)
                go_wp2_with fail
                go_quiet (fail)
                go_wp2_with fail
                have q1 : ¬ (xf : Int) < (zf : Int) := by omega
                have q2 : ¬ xf < zf := by omega
                have q3 : ¬ (j : Int) < 0 := by omega
                go_quiet (fail)
                go_wp2_with fail
                go_roundw
                case rel => first | exact SI.mk (i + 1) j (by omega) (by go_num) (by first | exact (hoi.drewN _).drewN _ | exact hoi.drewN _ | exact hoi) HB'.out | ((repeat apply Exists.intro); exact ⟨SI.mk (i + 1) j (by omega) (by go_num) (by first | exact (hoi.drewN _).drewN _ | exact hoi.drewN _ | exact hoi) HB'.out, rfl⟩)
                case measure => simp [intOf]; omega
          · obtain ⟨k', rfl⟩ : ∃ k', k = k' + 1 := ⟨k - 1, by omega⟩
            obtain ⟨y, hy⟩ : ∃ y, T[k']? = some y := ⟨_, List.getElem?_eq_getElem (by have := HT.out.len; have := HN.out; omega)⟩
            obtain ⟨go, rfl, y1'⟩ := HOC.out k' y (by rw [List.getElem?_take, if_pos (by omega)]; exact hy)
            have y1 := hoi.cell y1' (by simp)
            obtain ⟨yf, hyf⟩ : ∃ a, a = y.b.f := ⟨_, rfl⟩
            rw [← hyf] at y1
            have HY := Lib.hid hy
            have HYF := Lib.hid hyf
            have m1 : (0 : Int) < ((k' + 1 : Nat) : Int) := by omega
            have m2 : IntKind.i64.wrap (((k' + 1 : Nat) : Int) - 1) = (k' : Int) := by rw [IntKind.wrap_i64]; omega
            have m3 : (k' : Int) < ((k' + 1 : Nat) : Int) := by omega
            have m4 : ((k' : Int) + 1) - 1 = (k' : Int) := by omega
            clear hy hyf y1'
            by_cases hxy : xf ≤ yf
            · have HB' : Hid (Bst R T (k' + 1) (i + 1) best) := hbst.out.skip HX.out (fun h => by
                have := (El.succ HY.out).1 h
                rw [← HXF.out, ← HYF.out] at this; omega)
              go_wp2_with fail
              have q4 : (xf : Int) ≤ (yf : Int) := by omega
              have q5 : xf ≤ yf := by omega
              go_quiet (fail)
              go_wp2_with fail
              go_roundw
              case rel => first | exact SI.mk (i + 1) best (by omega) (by go_num) (by first | exact (hoi.drewN _).drewN _ | exact hoi.drewN _ | exact hoi) HB'.out | ((repeat apply Exists.intro); exact ⟨SI.mk (i + 1) best (by omega) (by go_num) (by first | exact (hoi.drewN _).drewN _ | exact hoi.drewN _ | exact hoi) HB'.out, rfl⟩)
              case measure => simp [intOf]; omega
            · have HE : Hid (El T (k' + 1) x) := (El.succ HY.out).2 (by rw [← HXF.out, ← HYF.out]; omega)
              rcases hbst.out.which with rfl | ⟨j, z, rfl, hji, hz⟩
              · go_wp2_with fail
                have q4 : ¬ (xf : Int) ≤ (yf : Int) := by omega
                have q5 : ¬ xf ≤ yf := by omega
                go_quiet (fail)
                go_wp2_with fail
                go_quiet (fail)
                go_wp2_with fail
                go_roundw
                case rel => first | exact SI.mk (i + 1) i (by omega) (by go_num) (by first | exact (hoi.drewN _).drewN _ | exact hoi.drewN _ | exact hoi) (hbst.out.first HX.out HE.out) | ((repeat apply Exists.intro); exact ⟨SI.mk (i + 1) i (by omega) (by go_num) (by first | exact (hoi.drewN _).drewN _ | exact hoi.drewN _ | exact hoi) (hbst.out.first HX.out HE.out), rfl⟩)
                case measure => simp [intOf]; omega
              · obtain ⟨hz1, g', off', he', hz2, hz3, z1, hz4⟩ := ((HR.out.quiet ho).quiet hoi).at hz
                cases he'
                obtain ⟨zf, hzf⟩ : ∃ a, a = z.b.f := ⟨_, rfl⟩
                rw [← hzf] at z1
                have HZ := Lib.hid hz
                have HZF := Lib.hid hzf
                have j1 : ¬ (j : Int) < 0 := by omega
                have j2 : (j : Int) < (n : Int) := by omega
                have j3 : j < n := by omega
                clear hz hzf hz1 hz2 hz3 hz4
                by_cases hxz : xf < zf
                · have HB' : Hid (Bst R T (k' + 1) (i + 1) i) := hbst.out.less HZ.out HX.out HE.out (by rw [← HXF.out, ← HZF.out]; exact hxz)
                  go_wp2_with fail
                  have q4 : ¬ (xf : Int) ≤ (yf : Int) := by omega
                  have q5 : ¬ xf ≤ yf := by omega
                  go_quiet (fail)
                  go_wp2_with fail
                  have q1 : (xf : Int) < (zf : Int) := by omega
                  have q2 : xf < zf := by omega
                  have q3 : ¬ (j : Int) < 0 := by omega
                  go_quiet (fail)
                  go_wp2_with fail
                  go_roundw
                  case rel => first | exact SI.mk (i + 1) i (by omega) (by go_num) (by first | exact (hoi.drewN _).drewN _ | exact hoi.drewN _ | exact hoi) HB'.out | ((repeat apply Exists.intro); exact ⟨SI.mk (i + 1) i (by omega) (by go_num) (by first | exact (hoi.drewN _).drewN _ | exact hoi.drewN _ | exact hoi) HB'.out, rfl⟩)
                  case measure => simp [intOf]; omega
                · have HB' : Hid (Bst R T (k' + 1) (i + 1) j) := hbst.out.keep HZ.out HX.out (by rw [← HXF.out, ← HZF.out]; omega)
                  go_wp2_with fail
                  have q4 : ¬ (xf : Int) ≤ (yf : Int) := by omega
                  have q5 : ¬ xf ≤ yf := by omega
                  go_quiet (fail)
                  go_wp2_with fail
                  have q1 : ¬ (xf : Int) < (zf : Int) := by omega
                  have q2 : ¬ xf < zf := by omega
                  have q3 : ¬ (j : Int) < 0 := by omega
                  go_quiet (fail)
                  go_wp2_with fail
                  go_roundw
                  case rel => first | exact SI.mk (i + 1) j (by omega) (by go_num) (by first | exact (hoi.drewN _).drewN _ | exact hoi.drewN _ | exact hoi) HB'.out | ((repeat apply Exists.intro); exact ⟨SI.mk (i + 1) j (by omega) (by go_num) (by first | exact (hoi.drewN _).drewN _ | exact hoi.drewN _ | exact hoi) HB'.out, rfl⟩)
                  case measure => simp [intOf]; omega
        · obtain rfl : i = n := by omega
          have t2 : ¬ (i : Int) < (i : Int) := by omega
          have hbd := hbst.out
          rw [HN.out] at hbd
          obtain ⟨j, z, rfl, hjz, hTz⟩ := hbd.done HT.out (by have := HN.out; omega)
          have hjl := (List.getElem?_eq_some_iff.1 hjz).1
          obtain ⟨hq1, g, off, rfl, hq2, z0, z1, z2, z3⟩ := ((HR.out.quiet ho).quiet hoi).at hjz
          have j1 : 0 ≤ (j : Int) := by omega
          have j2 : (j : Int) < (i : Int) := by have := HN.out; omega
          have j3 : j < i := by omega
          have j4 : ¬ (j : Int) < 0 := by omega
          have HTS : Hid (rcs (T.take (k + 1)) = rcs (T.take k) ++ [.int .i64 z.b.h, .int .i64 z.b.f, .int .i64 z.b.n, .slice z.base z.b.d.length z.c]) := rcs_take_succ hTz
          obtain ⟨zh, hzh⟩ : ∃ a, a = z.b.h := ⟨_, rfl⟩
          obtain ⟨zf, hzf⟩ : ∃ a, a = z.b.f := ⟨_, rfl⟩
          obtain ⟨zn, hzn⟩ : ∃ a, a = z.b.n := ⟨_, rfl⟩
          obtain ⟨zb, hzb⟩ : ∃ a, a = z.base := ⟨_, rfl⟩
          obtain ⟨zl, hzl⟩ : ∃ a, a = z.b.d.length := ⟨_, rfl⟩
          obtain ⟨zc, hzc⟩ : ∃ a, a = z.c := ⟨_, rfl⟩
          rw [← hzh, ← hzf, ← hzn, ← hzb, ← hzl, ← hzc] at HTS
          rw [← hzh] at z0
          rw [← hzf] at z1
          rw [← hzn] at z2
          rw [← hzb, ← hzl, ← hzc] at z3
          have hown2 := owns_oth hown.out hoi (fun k hk => by simp)
          have hgl := World.block_lt_of_cell? wr _ z0
          have hsz := (ho.trans hoi (Fr.nil _ _)).size
          have HJ := Lib.hid hjl
          clear hq1 hq2 hjz hTz hzh hzf hzn hzb hzl hzc hbd hjl
          go_wp2_with (at_builtin; refine wpList_append_own _ rfl _ _ 53 rfl w.heap.size 77 i0 _ 4 48 Try.underlying53 hi hz0 hz1 hz2 rfl (by decide) _ _ _ rfl (hown2.alloc _) ⟨wr.heap.size, 0, none⟩ 1 1 [.int .i64 zh, .int .i64 zf, .int .i64 zn, .slice zb zl zc] rfl rfl ?c1 ?c2 ?c3 ?c4 ?c5 ?_)
          case c2 => exact ⟨rfl, rfl, rfl, rfl⟩
          case c3 => unfold maxLen; omega
          case c4 => omega
          case c5 => omega
          intro v' w1 hown1 hgrow1 _
          have ho1 : Oth [] w w1 := ((ho.trans hoi (Fr.nil _ _)).alloc _).grown hgrow1 (fun k hk => by have := hown2.lt k hk; exact .inr this.1)
          have HO1 : Hid (w1.ownsRow w.heap.size 77 4 v' (k + 1) (rcs (T.take (k + 1)))) := by
            rw [HTS.out]; exact hown1
          clear hown1 hgrow1 hown2 z0 z1 z2 z3
          go_wp2_with fail
          go_roundw
          case rel => exact ⟨k + 1, by omega, by go_num, HO1, ho1⟩
          case measure => simp [intOf]; omega
    · obtain rfl : k = n := by omega
      have t1 : ¬ (k : Int) < (k : Int) := by omega
      rw [List.take_of_length_le (by have := HN.out; have := HT.out.len; omega)] at hown
      go_wp2
      go_ret
      exact ⟨_, rfl, hown.out, ho⟩
end Go.Proofs.Ythllilkafdgheaa
