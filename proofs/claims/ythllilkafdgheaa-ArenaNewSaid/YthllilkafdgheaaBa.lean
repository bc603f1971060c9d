/- The walk of the law ArenaNew. No condition. -/
import Derived.Test.YthllilkafdgheaaAxa
namespace Go.Proofs.Ythllilkafdgheaa
open Go.RowKit
set_option linter.unusedVariables false
set_option linter.unusedSimpArgs false

theorem give0 {w : World} {p : Nat} {w1 : World} {cap : Nat} (h : Fresh w p (st0 cap) w1) (words : Nat) (h1 : 1 ≤ words) (h2 : words ≤ 65536) (h3 : words ≤ cap) :
    Calls Try.prog 11 #[.pointer (some ⟨p, 0, none⟩), .int .i64 words] w1 fun e w' => e = .returned (.tuple #[.int .i64 1, .int .i64 0]) ∧ ∃ s', s'.high = words ∧ Fresh w p s' w' := by
  refine (h.give words (by simp [st0]) h1 h2 (by simpa [st0] using h3)).mono ?_
  rintro e w' ⟨rfl, s', hgv, hf⟩
  refine ⟨rfl, s', ?_, hf⟩
  obtain ⟨i, pk, ⟨rfl, k1, k2, k3, k4⟩ | ⟨rfl, k2, k3⟩⟩ := hgv.where h.good h1
  · obtain rfl : i = 0 := by simpa [st0] using k1
    simp [placed, st0, E]
  · simp [placed, st0, E, comp]
theorem cap0 {w : World} {p : Nat} {w1 : World} {cap : Nat} (h : Fresh w p (st0 cap) w1) : Calls Try.prog 20 #[.pointer (some ⟨p, 0, none⟩)] w1 fun e w' => e = .returned (.int .i64 cap) ∧ w1 = w' := h.cap
theorem live0 {w : World} {p : Nat} {w1 : World} {cap : Nat} (h : Fresh w p (st0 cap) w1) : Calls Try.prog 13 #[.pointer (some ⟨p, 0, none⟩)] w1 fun e w' => e = .returned (.int .i64 0) ∧ w1 = w' := h.live
theorem free0 {w : World} {p : Nat} {w1 : World} {cap : Nat} (h : Fresh w p (st0 cap) w1) : Calls Try.prog 12 #[.pointer (some ⟨p, 0, none⟩), .int .i64 1] w1 fun e w' => e = .returned (.int .i64 14) ∧ Fresh w p (st0 cap) w' :=
  h.freeNot 1 (by decide) (by simp [st0])
theorem high0 {w : World} {p : Nat} {w1 : World} {s : St} {n : Nat} (h : Fresh w p s w1) (hs : s.high = n) : Calls Try.prog 21 #[.pointer (some ⟨p, 0, none⟩)] w1 fun e w' => e = .returned (.int .i64 n) ∧ w1 = w' := by
  subst hs; exact h.high

set_option maxHeartbeats 8000000 in
set_option maxRecDepth 100000 in
theorem arenaNew_walk (cap words : Int) (w0 : (Lit.int .i64 cap).wf = true) (w1 : (Lit.int .i64 words).wf = true) (w : World) :
    Calls Try.prog 5 #[.int .i64 cap, .int .i64 words] w fun e w' => e = .returned (.bool true) ∧ Below w.heap.size w w' := by
  suffices h : Calls Try.prog 5 #[.int .i64 cap, .int .i64 words] w fun e w' => e = .returned (.bool true) ∧ Oth [] w w' by
    refine h.mono ?_
    rintro e w' ⟨rfl, ho⟩
    exact ⟨rfl, ho.below (Nat.le_refl _) (by simp)⟩
  clear w0 w1
  by_cases hc : cap < 0 ∨ 16777216 < cap
  · have HC := Lib.hid hc
    by_cases h1 : cap < 0
    · clear hc
      go_enter Try.func5, Try.ntmps5
      go_wp2_with fail
      refine (New_range cap w HC.out).mono ?_
      rintro e w' ⟨rfl, rfl⟩
      go_wp2_with fail
      refine (awake_any _).mono ?_
      rintro e w' ⟨rfl, ho⟩
      go_wp2_with fail
      go_ret
      exact ⟨rfl, ho⟩
    · have h2 : 16777216 < cap := by omega
      clear hc
      go_enter Try.func5, Try.ntmps5
      go_wp2_with fail
      refine (New_range cap w HC.out).mono ?_
      rintro e w' ⟨rfl, rfl⟩
      go_wp2_with fail
      refine (awake_any _).mono ?_
      rintro e w' ⟨rfl, ho⟩
      go_wp2_with fail
      go_ret
      exact ⟨rfl, ho⟩
  · obtain ⟨n, rfl⟩ : ∃ n : Nat, cap = n := ⟨cap.toNat, by omega⟩
    have hn : n ≤ 16777216 := by omega
    have h1 : ¬ (n : Int) < 0 := by omega
    have h2 : ¬ (16777216 : Int) < (n : Int) := by omega
    clear hc
    go_enter Try.func5, Try.ntmps5
    go_wp2_with fail
    refine (Fresh.new w n hn).mono ?_
    rintro e w1 ⟨p, rfl, hf⟩
    have H1 := Lib.hid hf
    clear hf
    go_wp2_with fail
    refine (cap0 H1.out).mono ?_
    rintro e w' ⟨rfl, rfl⟩
    go_wp2_with fail
    refine (live0 H1.out).mono ?_
    rintro e w' ⟨rfl, rfl⟩
    go_wp2_with fail
    refine (free0 H1.out).mono ?_
    rintro e w2 ⟨rfl, hf⟩
    have H2 := Lib.hid hf
    clear hf H1
    go_wp2_with fail
    by_cases hw : words < 1 ∨ 65536 < words
    · refine (H2.out.range words hw).mono ?_
      rintro e w3 ⟨rfl, hf⟩
      have H3 := Lib.hid hf
      clear hf H2
      have HW := Lib.hid hw
      by_cases k1 : words < 1
      · clear hw
        go_wp2_with fail
        refine (awake_any _).mono ?_
        rintro e w' ⟨rfl, ho⟩
        go_wp2_with fail
        go_ret
        exact ⟨rfl, H3.out.oth.trans ho (Fr.nil _ _)⟩
      · have k2 : 65536 < words := by omega
        clear hw
        go_wp2_with fail
        refine (awake_any _).mono ?_
        rintro e w' ⟨rfl, ho⟩
        go_wp2_with fail
        go_ret
        exact ⟨rfl, H3.out.oth.trans ho (Fr.nil _ _)⟩
    · obtain ⟨m, rfl⟩ : ∃ m : Nat, words = m := ⟨words.toNat, by omega⟩
      have m1 : 1 ≤ m := by omega
      have m2 : m ≤ 65536 := by omega
      have k1 : ¬ (m : Int) < 1 := by omega
      have k2 : ¬ (65536 : Int) < (m : Int) := by omega
      clear hw
      by_cases hq : n < m
      · have k3 : (n : Int) < (m : Int) := by omega
        refine (H2.out.full m m1 m2 (by simpa [st0] using hq)).mono ?_
        rintro e w3 ⟨rfl, hf⟩
        have H3 := Lib.hid hf
        clear hf H2
        go_wp2_with fail
        refine (awake_any _).mono ?_
        rintro e w' ⟨rfl, ho⟩
        go_wp2_with fail
        go_ret
        exact ⟨rfl, H3.out.oth.trans ho (Fr.nil _ _)⟩
      · have k3 : ¬ (n : Int) < (m : Int) := by omega
        refine (give0 H2.out m m1 m2 (by omega)).mono ?_
        rintro e w3 ⟨rfl, s', hs', hf⟩
        have H3 := Lib.hid hf
        have HS := Lib.hid hs'
        clear hf H2 hs'
        go_wp2_with fail
        refine (high0 H3.out HS.out).mono ?_
        rintro e w4 ⟨rfl, rfl⟩
        go_wp2_with fail
        refine (awake_any _).mono ?_
        rintro e w' ⟨rfl, ho⟩
        go_wp2_with fail
        go_ret
        exact ⟨rfl, H3.out.oth.trans ho (Fr.nil _ _)⟩
end Go.Proofs.Ythllilkafdgheaa
