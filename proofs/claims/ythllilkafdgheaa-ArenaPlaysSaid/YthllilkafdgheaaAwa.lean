/- The walk of awake. No condition. -/
import Derived.Test.YthllilkafdgheaaAva
import Derived.Test.YthllilkafdgheaaAj
namespace Go.Proofs.Ythllilkafdgheaa
open Go.RowKit
set_option linter.unusedVariables false
set_option linter.unusedSimpArgs false

/-- An arena that is as it should be, in memory that is new since w. -/
structure Fresh (w : World) (p : Nat) (s : St) (w' : World) : Prop where
  ar : ∃ S, Ar p S s w' ∧ ∀ k, k ∈ S → w.heap.size ≤ k
  good : Good s
  oth : Oth [] w w'

theorem Fresh.give {w : World} {p : Nat} {s : St} {w1 : World} (h : Fresh w p s w1) (words : Nat) (hnx : s.next < 1000) (h1 : 1 ≤ words) (h2 : words ≤ 65536) (h3 : s.live + words ≤ s.cap) :
    Calls Try.prog 11 #[.pointer (some ⟨p, 0, none⟩), .int .i64 words] w1 fun e w' => e = .returned (.tuple #[.int .i64 ((s.next : Int) + 1), .int .i64 0]) ∧ ∃ s', Given s words s' ∧ Fresh w p s' w' := by
  obtain ⟨S, ha, hS⟩ := h.ar
  refine (Give_ok p S s words w1 ha h.good hnx h1 h2 h3).mono ?_
  rintro e w' ⟨rfl, S', s', hgv, ha', hfr, ho⟩
  refine ⟨rfl, s', hgv, ⟨S', ha', fun k hk => ?_⟩, hgv.good h.good h1 h3 hnx, ?_⟩
  · rcases hfr k hk with h4 | h4
    · exact hS k h4
    · have := h.oth.size; omega
  · exact h.oth.trans ho (fun k hk => .inr (hS k hk))
theorem Fresh.quiet {w : World} {p : Nat} {s : St} {w1 w2 : World} (h : Fresh w p s w1) (ho : Oth [] w1 w2) : Fresh w p s w2 := by
  obtain ⟨S, ha, hS⟩ := h.ar
  exact ⟨⟨S, ha.oth ho (by simp), hS⟩, h.good, h.oth.trans ho (Fr.nil _ _)⟩
theorem Fresh.new (w : World) (cap : Nat) (hc : cap ≤ 16777216) : Calls Try.prog 10 #[.int .i64 cap] w fun e w' => ∃ p, e = .returned (.tuple #[.pointer (some ⟨p, 0, none⟩), .int .i64 0]) ∧ Fresh w p (st0 cap) w' := by
  refine (New_ok cap w hc).mono ?_
  rintro e w' ⟨p, S, rfl, ha, hfr, ho⟩
  refine ⟨p, rfl, ⟨S, ha, fun k hk => ?_⟩, good0 hc, ho⟩
  rcases hfr k hk with h | h
  · cases h
  · exact h
theorem Fresh.range {w : World} {p : Nat} {s : St} {w1 : World} (h : Fresh w p s w1) (words : Int) (hw : words < 1 ∨ 65536 < words) :
    Calls Try.prog 11 #[.pointer (some ⟨p, 0, none⟩), .int .i64 words] w1 fun e w' => e = .returned (.tuple #[.int .i64 0, .int .i64 11]) ∧ Fresh w p s w' := by
  refine (Give_range p [] s words w1 hw).mono ?_
  rintro e w' ⟨rfl, rfl⟩
  exact ⟨rfl, h⟩
theorem Fresh.full {w : World} {p : Nat} {s : St} {w1 : World} (h : Fresh w p s w1) (words : Nat) (h1 : 1 ≤ words) (h2 : words ≤ 65536) (h3 : s.cap < s.live + words) :
    Calls Try.prog 11 #[.pointer (some ⟨p, 0, none⟩), .int .i64 words] w1 fun e w' => e = .returned (.tuple #[.int .i64 0, .int .i64 15]) ∧ Fresh w p s w' := by
  obtain ⟨S, ha, hS⟩ := h.ar
  refine (Give_full p S s words w1 ha h.good h1 h2 h3 (by have := h.good.peak; omega)).mono ?_
  rintro e w' ⟨rfl, ho⟩
  exact ⟨rfl, h.quiet ho⟩
theorem Fresh.free {w : World} {p : Nat} {s : St} {w1 : World} (h : Fresh w p s w1) {j : Nat} {x : Blk} (hx : s.L[j]? = some x) :
    Calls Try.prog 12 #[.pointer (some ⟨p, 0, none⟩), .int .i64 x.h] w1 fun e w' => e = .returned (.int .i64 0) ∧ Fresh w p (freed s j x) w' := by
  obtain ⟨S, ha, hS⟩ := h.ar
  refine (Free_hit p S s j x w1 ha h.good hx).mono ?_
  rintro e w' ⟨rfl, ha', ho⟩
  exact ⟨rfl, ⟨S, ha', hS⟩, freed_good h.good hx, h.oth.trans ho (fun k hk => .inr (hS k hk))⟩
theorem Fresh.freeNot {w : World} {p : Nat} {s : St} {w1 : World} (h : Fresh w p s w1) (k : Int) (hk : (Lit.int .i64 k).wf = true) (hx : ∀ b, b ∈ s.L → (b.h : Int) ≠ k) :
    Calls Try.prog 12 #[.pointer (some ⟨p, 0, none⟩), .int .i64 k] w1 fun e w' => e = .returned (.int .i64 14) ∧ Fresh w p s w' := by
  obtain ⟨S, ha, hS⟩ := h.ar
  refine (Free_miss p S s k w1 ha hk hx).mono ?_
  rintro e w' ⟨rfl, rfl⟩
  exact ⟨rfl, h⟩
theorem Fresh.find {w : World} {p : Nat} {s : St} {w1 : World} (h : Fresh w p s w1) {j : Nat} {x : Blk} (hx : s.L[j]? = some x) :
    Calls Try.prog 18 #[.pointer (some ⟨p, 0, none⟩), .int .i64 x.h] w1 fun e w' => e = .returned (.tuple #[bval x, .int .i64 0]) ∧ Fresh w p s w' := by
  obtain ⟨S, ha, hS⟩ := h.ar
  refine (Find_hit p S s j x w1 ha h.good hx).mono ?_
  rintro e w' ⟨rfl, ho⟩
  exact ⟨rfl, h.quiet ho⟩
theorem Fresh.get {w : World} {p : Nat} {s : St} {w1 : World} (h : Fresh w p s w1) {j : Nat} {x : Blk} (hx : s.L[j]? = some x) :
    Calls Try.prog 15 #[.pointer (some ⟨p, 0, none⟩), .int .i64 x.h] w1 fun e w' => ∃ g' cap', e = .returned (.tuple #[.slice (some ⟨g', 0, none⟩) x.n cap', .int .i64 0]) ∧ w1.heap.size ≤ g' ∧ Row 59 1 g' x.n cap' (x.d.map (Value.int .i64)) w' ∧ Fresh w p s w' := by
  obtain ⟨S, ha, hS⟩ := h.ar
  refine (Get_hit p S s j x w1 ha h.good hx).mono ?_
  rintro e w' ⟨g', cap', rfl, h1, h2, ho⟩
  exact ⟨g', cap', rfl, h1, h2, h.quiet ho⟩
theorem Fresh.put {w : World} {p : Nat} {s : St} {w1 : World} (h : Fresh w p s w1) {j : Nat} {x : Blk} (hx : s.L[j]? = some x) (ad : Addr) (m c : Nat) (ds : List Int) (hm : m = x.n) (hds : ds.length = m) (hrd : ∀ i v, ds[i]? = some v → w1.cell? (ad.add i) = some (.int .i64 v)) (had : ∀ S, Ar p S s w1 → ad.block ∉ S) :
    Calls Try.prog 14 #[.pointer (some ⟨p, 0, none⟩), .int .i64 x.h, .slice (some ad) m c] w1 fun e w' => e = .returned (.int .i64 0) ∧ Fresh w p (wrote s j x ds) w' := by
  obtain ⟨S, ha, hS⟩ := h.ar
  refine (Put_hit p S s j x ad m c ds w1 ha h.good hx hm hds hrd (had S ha)).mono ?_
  rintro e w' ⟨rfl, ha', ho⟩
  exact ⟨rfl, ⟨S, ha', hS⟩, wrote_good h.good hx (by omega), h.oth.trans ho (fun k hk => .inr (hS k hk))⟩
end Go.Proofs.Ythllilkafdgheaa
