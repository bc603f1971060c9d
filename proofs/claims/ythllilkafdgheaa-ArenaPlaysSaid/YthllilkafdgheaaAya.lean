/- Memory beside an arena: what its calls leave as it was. No condition. -/
import Derived.Test.YthllilkafdgheaaAxa
namespace Go.Proofs.Ythllilkafdgheaa
open Go.RowKit
set_option linter.unusedVariables false
set_option linter.unusedSimpArgs false

theorem owns_slice {w : World} {B : Nat} {e : TypeId} {n : Nat} {v : Value} {xs : List Value} (h : w.ownsRow B e 1 v n xs) :
    ∃ b cap, v = .slice b n cap ∧ ∀ i x, xs[i]? = some x → ∃ g, b = some ⟨g, 0, none⟩ ∧ w.cell? ⟨g, i, none⟩ = some x := by
  rcases Nat.eq_zero_or_pos n with h0 | h0
  · have hl := h.1
    have hnil : xs = [] := List.eq_nil_of_length_eq_zero (by omega)
    rcases h.2 with ⟨rfl, _⟩ | ⟨g, cap, cur, rfl, _⟩
    · exact ⟨none, 0, by rw [h0], fun i x hx => by simp [hnil] at hx⟩
    · exact ⟨_, cap, rfl, fun i x hx => by simp [hnil] at hx⟩
  · obtain ⟨g, cap, rfl, _, hr⟩ := row_of_owns h h0
    exact ⟨_, cap, rfl, fun i x hx => ⟨g, rfl, hr.cell hx⟩⟩
/-- From one arena to the next: only its own blocks are written. -/
def Mv (p : Nat) (s : St) (w1 : World) (s' : St) (w' : World) : Prop := ∃ S S', Ar p S s w1 ∧ Ar p S' s' w' ∧ Fr S w1 S' ∧ Oth S w1 w'
/-- A block of memory that isn't the arena's. -/
def Bes (p : Nat) (s : St) (w : World) (g : Nat) : Prop := g < w.heap.size ∧ ∀ S, Ar p S s w → g ∉ S
theorem Mv.bes {p : Nat} {s s' : St} {w1 w' : World} (h : Mv p s w1 s' w') {g : Nat} (hg : Bes p s w1 g) : Bes p s' w' g ∧ w'.heap[g]? = w1.heap[g]? := by
  obtain ⟨S, S', h1, h2, h3, h4⟩ := h
  refine ⟨⟨Nat.lt_of_lt_of_le hg.1 h4.size, fun T hT hm => ?_⟩, h4.block g hg.1 (hg.2 S h1)⟩
  rw [hT.one h2] at hm
  rcases h3 g hm with h | h
  · exact hg.2 S h1 h
  · have := hg.1; omega
theorem Mv.cell {p : Nat} {s s' : St} {w1 w' : World} (h : Mv p s w1 s' w') {a : Addr} {v : Value} (hg : Bes p s w1 a.block) (hc : w1.cell? a = some v) : w'.cell? a = some v := by
  rw [World.cell?_of_block (w := w1) (h.bes hg).2]; exact hc
theorem Mv.owns {p : Nat} {s s' : St} {w1 w' : World} (h : Mv p s w1 s' w') {B n z : Nat} {e : TypeId} {v : Value} {xs : List Value} (ho : w1.ownsRow B e z v n xs) (hg : ∀ k, v.ownBlock = some k → Bes p s w1 k) : w'.ownsRow B e z v n xs := by
  obtain ⟨S, S', h1, h2, h3, h4⟩ := h
  exact owns_oth ho h4 (fun k hk => (hg k hk).2 S h1)
theorem Fresh.mv {w : World} {p : Nat} {s : St} {w1 w2 : World} (h : Fresh w p s w1) (ho : Oth [] w1 w2) : Mv p s w1 s w2 := by
  obtain ⟨S, ha, hS⟩ := h.ar
  exact ⟨S, S, ha, ha.oth ho (by simp), Fr.refl _ _, ho.mono (by simp)⟩
/-- What is new is not the arena's. -/
theorem Fresh.bes {w : World} {p : Nat} {s : St} {w1 w2 : World} (h : Fresh w p s w1) (ho : Oth [] w1 w2) {g : Nat} (h1 : w1.heap.size ≤ g) (h2 : g < w2.heap.size) : Bes p s w2 g := by
  obtain ⟨S, ha, hS⟩ := h.ar
  refine ⟨h2, fun T hT hm => ?_⟩
  rw [hT.one (ha.oth ho (by simp))] at hm
  have := ha.lt g hm; omega
/-- What is old is not the arena's. -/
theorem Fresh.old {w : World} {p : Nat} {s : St} {w1 : World} (h : Fresh w p s w1) {g : Nat} (h1 : g < w.heap.size) : Bes p s w1 g := by
  refine ⟨Nat.lt_of_lt_of_le h1 h.oth.size, fun T hT hm => ?_⟩
  have := h.ge T hT g hm; omega
theorem Bes.oth {w : World} {p : Nat} {s : St} {w1 w2 : World} {g : Nat} (h : Bes p s w1 g) (hf : Fresh w p s w1) (ho : Oth [] w1 w2) : Bes p s w2 g := ((hf.mv ho).bes h).1

section
variable {w : World} {p : Nat} {s : St} {w1 : World}
theorem Fresh.giveM (h : Fresh w p s w1) (words : Nat) (hnx : s.next < 1000) (h1 : 1 ≤ words) (h2 : words ≤ 65536) (h3 : s.live + words ≤ s.cap) :
    Calls Try.prog 11 #[.pointer (some ⟨p, 0, none⟩), .int .i64 words] w1 fun e w' => e = .returned (.tuple #[.int .i64 ((s.next : Int) + 1), .int .i64 0]) ∧ ∃ s', Given s words s' ∧ Fresh w p s' w' ∧ Mv p s w1 s' w' := by
  obtain ⟨S, ha, hS⟩ := h.ar
  refine (Give_ok p S s words w1 ha h.good hnx h1 h2 h3).mono ?_
  rintro e w' ⟨rfl, S', s', hgv, ha', hfr, ho⟩
  refine ⟨rfl, s', hgv, ⟨⟨S', ha', fun k hk => ?_⟩, hgv.good h.good h1 h3 hnx, ?_⟩, S, S', ha, ha', hfr, ho⟩
  · rcases hfr k hk with h4 | h4
    · exact hS k h4
    · have := h.oth.size; omega
  · exact h.oth.trans ho (fun k hk => .inr (hS k hk))
theorem Fresh.rangeM (h : Fresh w p s w1) (words : Int) (hw : words < 1 ∨ 65536 < words) :
    Calls Try.prog 11 #[.pointer (some ⟨p, 0, none⟩), .int .i64 words] w1 fun e w' => e = .returned (.tuple #[.int .i64 0, .int .i64 11]) ∧ Fresh w p s w' ∧ Oth [] w1 w' := by
  refine (Give_range p [] s words w1 hw).mono ?_
  rintro e w' ⟨rfl, rfl⟩
  exact ⟨rfl, h, Oth.refl _ _⟩
theorem Fresh.fullM (h : Fresh w p s w1) (words : Nat) (h1 : 1 ≤ words) (h2 : words ≤ 65536) (h3 : s.cap < s.live + words) :
    Calls Try.prog 11 #[.pointer (some ⟨p, 0, none⟩), .int .i64 words] w1 fun e w' => e = .returned (.tuple #[.int .i64 0, .int .i64 15]) ∧ Fresh w p s w' ∧ Oth [] w1 w' := by
  obtain ⟨S, ha, hS⟩ := h.ar
  refine (Give_full p S s words w1 ha h.good h1 h2 h3 (by have := h.good.peak; omega)).mono ?_
  rintro e w' ⟨rfl, ho⟩
  exact ⟨rfl, h.quiet ho, ho⟩
theorem Fresh.freeM (h : Fresh w p s w1) {j : Nat} {x : Blk} (hx : s.L[j]? = some x) :
    Calls Try.prog 12 #[.pointer (some ⟨p, 0, none⟩), .int .i64 x.h] w1 fun e w' => e = .returned (.int .i64 0) ∧ Fresh w p (freed s j x) w' ∧ Mv p s w1 (freed s j x) w' := by
  obtain ⟨S, ha, hS⟩ := h.ar
  refine (Free_hit p S s j x w1 ha h.good hx).mono ?_
  rintro e w' ⟨rfl, ha', ho⟩
  exact ⟨rfl, ⟨⟨S, ha', hS⟩, freed_good h.good hx, h.oth.trans ho (fun k hk => .inr (hS k hk))⟩, S, S, ha, ha', Fr.refl _ _, ho⟩
theorem Fresh.freeNotM (h : Fresh w p s w1) (k : Int) (hk : (Lit.int .i64 k).wf = true) (hx : ∀ b, b ∈ s.L → (b.h : Int) ≠ k) :
    Calls Try.prog 12 #[.pointer (some ⟨p, 0, none⟩), .int .i64 k] w1 fun e w' => e = .returned (.int .i64 14) ∧ w1 = w' := by
  obtain ⟨S, ha, hS⟩ := h.ar
  exact Free_miss p S s k w1 ha hk hx
theorem Fresh.findM (h : Fresh w p s w1) {j : Nat} {x : Blk} (hx : s.L[j]? = some x) :
    Calls Try.prog 18 #[.pointer (some ⟨p, 0, none⟩), .int .i64 x.h] w1 fun e w' => e = .returned (.tuple #[.agg #[.int .i64 x.h, .int .i64 x.f, .int .i64 x.n], .int .i64 0]) ∧ Fresh w p s w' ∧ Oth [] w1 w' := by
  obtain ⟨S, ha, hS⟩ := h.ar
  refine (Find_hit p S s j x w1 ha h.good hx).mono ?_
  rintro e w' ⟨rfl, ho⟩
  exact ⟨rfl, h.quiet ho, ho⟩
theorem Fresh.getM (h : Fresh w p s w1) {j : Nat} {x : Blk} (hx : s.L[j]? = some x) :
    Calls Try.prog 15 #[.pointer (some ⟨p, 0, none⟩), .int .i64 x.h] w1 fun e w' => ∃ g' cap', e = .returned (.tuple #[.slice (some ⟨g', 0, none⟩) x.n cap', .int .i64 0]) ∧ w1.heap.size ≤ g' ∧ Row 59 1 g' x.n cap' (x.d.map (Value.int .i64)) w' ∧ Fresh w p s w' ∧ Oth [] w1 w' := by
  obtain ⟨S, ha, hS⟩ := h.ar
  refine (Get_hit p S s j x w1 ha h.good hx).mono ?_
  rintro e w' ⟨g', cap', rfl, h1, h2, ho⟩
  exact ⟨g', cap', rfl, h1, h2, h.quiet ho, ho⟩
theorem Fresh.putM (h : Fresh w p s w1) {j : Nat} {x : Blk} (hx : s.L[j]? = some x) (ad : Addr) (m c : Nat) (ds : List Int) (hm : m = x.n) (hds : ds.length = m) (hrd : ∀ i v, ds[i]? = some v → w1.cell? (ad.add i) = some (.int .i64 v)) (had : Bes p s w1 ad.block) :
    Calls Try.prog 14 #[.pointer (some ⟨p, 0, none⟩), .int .i64 x.h, .slice (some ad) m c] w1 fun e w' => e = .returned (.int .i64 0) ∧ Fresh w p (wrote s j x ds) w' ∧ Mv p s w1 (wrote s j x ds) w' := by
  obtain ⟨S, ha, hS⟩ := h.ar
  refine (Put_hit p S s j x ad m c ds w1 ha h.good hx hm hds hrd (had.2 S ha)).mono ?_
  rintro e w' ⟨rfl, ha', ho⟩
  exact ⟨rfl, ⟨⟨S, ha', hS⟩, wrote_good h.good hx (by omega), h.oth.trans ho (fun k hk => .inr (hS k hk))⟩, S, S, ha, ha', Fr.refl _ _, ho⟩
theorem Fresh.getNot (h : Fresh w p s w1) (k : Int) (hk : (Lit.int .i64 k).wf = true) (hx : ∀ b, b ∈ s.L → (b.h : Int) ≠ k) :
    Calls Try.prog 15 #[.pointer (some ⟨p, 0, none⟩), .int .i64 k] w1 fun e w' => e = .returned (.tuple #[.slice none 0 0, .int .i64 14]) ∧ Fresh w p s w' ∧ Oth [] w1 w' := by
  obtain ⟨S, ha, hS⟩ := h.ar
  refine (Get_miss p S s k w1 ha hk hx).mono ?_
  rintro e w' ⟨rfl, ho⟩
  exact ⟨rfl, h.quiet ho, ho⟩
/-- What is written beside the arena leaves it. -/
theorem Fresh.other (h : Fresh w p s w1) {T : List Nat} {w2 : World} (ho : Oth T w1 w2) (hT : ∀ k, k ∈ T → w.heap.size ≤ k ∧ (k < w1.heap.size → Bes p s w1 k)) : Fresh w p s w2 ∧ (∀ k, Bes p s w1 k → Bes p s w2 k) ∧ ∀ k, w1.heap.size ≤ k → k < w2.heap.size → Bes p s w2 k := by
  obtain ⟨S, ha, hS⟩ := h.ar
  have ha2 : Ar p S s w2 := ha.oth ho (fun k hk hm => ((hT k hm).2 (ha.lt k hk)).2 S ha hk)
  refine ⟨⟨⟨S, ha2, hS⟩, h.good, h.oth.trans ho (fun k hk => .inr (hT k hk).1)⟩, fun k hk => ⟨Nat.lt_of_lt_of_le hk.1 ho.size, fun T hT hm => ?_⟩, fun k hk hk2 => ⟨hk2, fun T hT hm => ?_⟩⟩
  · rw [hT.one ha2] at hm
    exact hk.2 S ha hm
  · rw [hT.one ha2] at hm
    have := ha.lt k hm; omega
theorem Fresh.grown (h : Fresh w p s w1) {row : Option Nat} {w2 : World} (hg : w1.grownBy w2 row) (hb : ∀ k, row = some k → w.heap.size ≤ k ∧ Bes p s w1 k) : Fresh w p s w2 ∧ (∀ k, Bes p s w1 k → Bes p s w2 k) ∧ ∀ k, w1.heap.size ≤ k → k < w2.heap.size → Bes p s w2 k := by
  refine h.other (T := row.toList) ((Oth.refl _ w1).grown hg (fun k hk => by subst hk; simp)) (fun k hk => ?_)
  have := hb k (by simpa using hk)
  exact ⟨this.1, fun _ => this.2⟩
theorem Fresh.putNot (h : Fresh w p s w1) (k : Int) (v : Value) (hk : (Lit.int .i64 k).wf = true) (hx : ∀ b, b ∈ s.L → (b.h : Int) ≠ k) :
    Calls Try.prog 14 #[.pointer (some ⟨p, 0, none⟩), .int .i64 k, v] w1 fun e w' => e = .returned (.int .i64 14) ∧ Fresh w p s w' ∧ Oth [] w1 w' := by
  obtain ⟨S, ha, hS⟩ := h.ar
  refine (Put_miss p S s k v w1 ha hk hx).mono ?_
  rintro e w' ⟨rfl, ho⟩
  exact ⟨rfl, h.quiet ho, ho⟩
theorem Fresh.putShape (h : Fresh w p s w1) {j : Nat} {x : Blk} (hx : s.L[j]? = some x) (b : Option Addr) (m c : Nat) (hm : m ≠ x.n) (hm1 : m ≤ 1000) :
    Calls Try.prog 14 #[.pointer (some ⟨p, 0, none⟩), .int .i64 x.h, .slice b m c] w1 fun e w' => e = .returned (.int .i64 20) ∧ Fresh w p s w' ∧ Oth [] w1 w' := by
  obtain ⟨S, ha, hS⟩ := h.ar
  refine (Put_shape p S s j x b m c w1 ha h.good hx hm hm1).mono ?_
  rintro e w' ⟨rfl, ho⟩
  exact ⟨rfl, h.quiet ho, ho⟩
end
end Go.Proofs.Ythllilkafdgheaa
