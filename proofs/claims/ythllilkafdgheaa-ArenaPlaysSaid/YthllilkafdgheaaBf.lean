/- Calls of the arena at any argument; a block's cells stay. No condition. -/
import Derived.Test.YthllilkafdgheaaBe
namespace Go.Proofs.Ythllilkafdgheaa
open Go.RowKit
set_option linter.unusedVariables false
set_option linter.unusedSimpArgs false

section
variable {w : World} {p : Nat} {s : St} {w1 : World}
/-- What Give answers. -/
def GaveAny (w : World) (p : Nat) (s : St) (words : Int) (w1 : World) (e : Ending) (w' : World) : Prop :=
  (e = .returned (.tuple #[.int .i64 ((s.next : Int) + 1), .int .i64 0]) ∧ ∃ (m : Nat) (s' : St), words = m ∧ 1 ≤ m ∧ s.live + m ≤ s.cap ∧ Given s m s' ∧ Fresh w p s' w' ∧ Mv p s w1 s' w') ∨
  (∃ er, (er = 11 ∧ (words < 1 ∨ 65536 < words) ∨ er = 15 ∧ (s.cap : Int) < s.live + words) ∧ e = .returned (.tuple #[.int .i64 0, .int .i64 er]) ∧ Fresh w p s w' ∧ Oth [] w1 w')
theorem Fresh.giveA (h : Fresh w p s w1) (words : Int) (hnx : s.next < 1000) :
    Calls Try.prog 11 #[.pointer (some ⟨p, 0, none⟩), .int .i64 words] w1 fun e w' => GaveAny w p s words w1 e w' := by
  by_cases hw : words < 1 ∨ 65536 < words
  · refine (h.rangeM words hw).mono ?_
    rintro e w' ⟨rfl, hf, ho⟩
    exact .inr ⟨11, .inl ⟨rfl, hw⟩, rfl, hf, ho⟩
  · obtain ⟨m, rfl⟩ : ∃ m : Nat, words = m := ⟨words.toNat, by omega⟩
    by_cases hq : s.cap < s.live + m
    · refine (h.fullM m (by omega) (by omega) hq).mono ?_
      rintro e w' ⟨rfl, hf, ho⟩
      exact .inr ⟨15, .inr ⟨rfl, by omega⟩, rfl, hf, ho⟩
    · refine (h.giveM m hnx (by omega) (by omega) (by omega)).mono ?_
      rintro e w' ⟨rfl, s', hgv, hf, hmv⟩
      exact .inl ⟨rfl, m, s', rfl, by omega, by omega, hgv, hf, hmv⟩
/-- What Free answers. -/
def FreedAny (w : World) (p : Nat) (s : St) (k : Int) (w1 : World) (e : Ending) (w' : World) : Prop :=
  (e = .returned (.int .i64 0) ∧ ∃ (j : Nat) (x : Blk), s.L[j]? = some x ∧ k = x.h ∧ Fresh w p (freed s j x) w' ∧ Mv p s w1 (freed s j x) w') ∨
  (e = .returned (.int .i64 14) ∧ (∀ b, b ∈ s.L → (b.h : Int) ≠ k) ∧ Fresh w p s w' ∧ Oth [] w1 w')
theorem find_or (s : St) (k : Int) : (∃ (j : Nat) (x : Blk), s.L[j]? = some x ∧ k = x.h) ∨ ∀ b, b ∈ s.L → (b.h : Int) ≠ k := by
  by_cases h : ∃ b, b ∈ s.L ∧ (b.h : Int) = k
  · obtain ⟨b, hb, hk⟩ := h
    obtain ⟨j, hj⟩ := List.mem_iff_getElem?.1 hb
    exact .inl ⟨j, b, hj, hk.symm⟩
  · exact .inr (fun b hb hk => h ⟨b, hb, hk⟩)
theorem Fresh.freeA (h : Fresh w p s w1) (k : Int) (hk : (Lit.int .i64 k).wf = true) :
    Calls Try.prog 12 #[.pointer (some ⟨p, 0, none⟩), .int .i64 k] w1 fun e w' => FreedAny w p s k w1 e w' := by
  rcases find_or s k with ⟨j, x, hx, rfl⟩ | hn
  · refine (h.freeM hx).mono ?_
    rintro e w' ⟨rfl, hf, hmv⟩
    exact .inl ⟨rfl, j, x, hx, rfl, hf, hmv⟩
  · refine (h.freeNotM k hk hn).mono ?_
    rintro e w' ⟨rfl, rfl⟩
    exact .inr ⟨rfl, hn, h, Oth.refl _ _⟩
/-- What Put answers. -/
def PutAny (w : World) (p : Nat) (s : St) (k : Int) (m : Nat) (ds : List Int) (w1 : World) (e : Ending) (w' : World) : Prop :=
  (e = .returned (.int .i64 0) ∧ ∃ (j : Nat) (x : Blk), s.L[j]? = some x ∧ k = x.h ∧ m = x.n ∧ Fresh w p (wrote s j x ds) w' ∧ Mv p s w1 (wrote s j x ds) w') ∨
  (e = .returned (.int .i64 20) ∧ ∃ (j : Nat) (x : Blk), s.L[j]? = some x ∧ k = x.h ∧ m ≠ x.n ∧ Fresh w p s w' ∧ Oth [] w1 w') ∨
  (e = .returned (.int .i64 14) ∧ (∀ b, b ∈ s.L → (b.h : Int) ≠ k) ∧ Fresh w p s w' ∧ Oth [] w1 w')
theorem Fresh.putA (h : Fresh w p s w1) (k : Int) (hk : (Lit.int .i64 k).wf = true) (b : Option Addr) (m c : Nat) (ds : List Int) (hm : m ≤ 1000) (hr : ReadsI b m ds w) :
    Calls Try.prog 14 #[.pointer (some ⟨p, 0, none⟩), .int .i64 k, .slice b m c] w1 fun e w' => PutAny w p s k m ds w1 e w' := by
  rcases find_or s k with ⟨j, x, hx, rfl⟩ | hn
  · by_cases hmx : m = x.n
    · have hxb := h.good.blk x (List.mem_of_getElem? hx)
      obtain ⟨v0, hv0⟩ : ∃ v, ds[0]? = some v := ⟨_, List.getElem?_eq_getElem (by have := hr.1; omega)⟩
      obtain ⟨g, off, rfl, c0⟩ := hr.2.2.2 0 v0 hv0
      refine (h.putM hx ⟨g, off, none⟩ m c ds hmx hr.1.symm (fun i v hv => ?_) (h.old (World.block_lt_of_cell? w _ c0))).mono ?_
      · obtain ⟨g', off', he, c1⟩ := hr.2.2.2 i v hv
        cases he
        rw [Addr.add_lit]
        exact h.oth.cell c1 (by simp)
      · rintro e w' ⟨rfl, hf, hmv⟩
        exact .inl ⟨rfl, j, x, hx, rfl, hmx, hf, hmv⟩
    · refine (h.putShape hx b m c hmx hm).mono ?_
      rintro e w' ⟨rfl, hf, ho⟩
      exact .inr (.inl ⟨rfl, j, x, hx, rfl, hmx, hf, ho⟩)
  · refine (h.putNot k _ hk hn).mono ?_
    rintro e w' ⟨rfl, hf, ho⟩
    exact .inr (.inr ⟨rfl, hn, hf, ho⟩)
end

/-- The call that is looked at, beside the arena. -/
def opc (o : OpV) : Obj := .cells #[.int .i64 o.k, .int .i64 o.n, .slice o.b o.m o.c] 31
theorem Fresh.beside {w : World} {p : Nat} {s : St} {w1 : World} (h : Fresh w p s w1) (o : Obj) : Fresh w p s (w1.alloc o) ∧ Bes p s (w1.alloc o) w1.heap.size ∧ (w1.alloc o).heap[w1.heap.size]? = some o := by
  have ho : Oth [] w1 (w1.alloc o) := (Oth.refl _ _).alloc _
  exact ⟨h.quiet ho, h.bes ho (Nat.le_refl _) (by simp), heap_alloc_new _ _⟩
theorem GaveAny.mv {w : World} {p : Nat} {s : St} {words : Int} {w1 : World} {e : Ending} {w' : World} (h : GaveAny w p s words w1 e w') (hf : Fresh w p s w1) :
    ∃ s', (s' = s ∨ ∃ m : Nat, Given s m s') ∧ (∃ a er, e = .returned (.tuple #[.int .i64 a, .int .i64 er])) ∧ Fresh w p s' w' ∧ Mv p s w1 s' w' := by
  rcases h with ⟨rfl, m, s', _, _, _, hg, h1, h2⟩ | ⟨er, _, rfl, h1, h2⟩
  · exact ⟨s', .inr ⟨m, hg⟩, ⟨_, _, rfl⟩, h1, h2⟩
  · exact ⟨s, .inl rfl, ⟨_, _, rfl⟩, h1, hf.mv h2⟩
theorem FreedAny.mv {w : World} {p : Nat} {s : St} {k : Int} {w1 : World} {e : Ending} {w' : World} (h : FreedAny w p s k w1 e w') (hf : Fresh w p s w1) :
    ∃ s', (s' = s ∨ ∃ (j : Nat) (x : Blk), s.L[j]? = some x ∧ k = x.h ∧ s' = freed s j x) ∧ (∃ er, e = .returned (.int .i64 er)) ∧ Fresh w p s' w' ∧ Mv p s w1 s' w' := by
  rcases h with ⟨rfl, j, x, hx, hk, h1, h2⟩ | ⟨rfl, _, h1, h2⟩
  · exact ⟨_, .inr ⟨j, x, hx, hk, rfl⟩, ⟨_, rfl⟩, h1, h2⟩
  · exact ⟨s, .inl rfl, ⟨_, rfl⟩, h1, hf.mv h2⟩
theorem PutAny.mv {w : World} {p : Nat} {s : St} {k : Int} {m : Nat} {ds : List Int} {w1 : World} {e : Ending} {w' : World} (h : PutAny w p s k m ds w1 e w') (hf : Fresh w p s w1) :
    ∃ s', (s' = s ∨ ∃ (j : Nat) (x : Blk), s.L[j]? = some x ∧ k = x.h ∧ s' = wrote s j x ds) ∧ (∃ er, e = .returned (.int .i64 er)) ∧ Fresh w p s' w' ∧ Mv p s w1 s' w' := by
  rcases h with ⟨rfl, j, x, hx, hk, hm, h1, h2⟩ | ⟨rfl, j, x, hx, hk, hm, h1, h2⟩ | ⟨rfl, _, h1, h2⟩
  · exact ⟨_, .inr ⟨j, x, hx, hk, rfl⟩, ⟨_, rfl⟩, h1, h2⟩
  · exact ⟨s, .inl rfl, ⟨_, rfl⟩, h1, hf.mv h2⟩
  · exact ⟨s, .inl rfl, ⟨_, rfl⟩, h1, hf.mv h2⟩

/-- Block h has the cells ds. -/
def Has (s : St) (h : Nat) (ds : List Int) : Prop := ∃ x, x ∈ s.L ∧ x.h = h ∧ x.d = ds
theorem Has.given {s s' : St} {m h : Nat} {ds : List Int} (hh : Has s h ds) (hg : Given s m s') : Has s' h ds := by
  obtain ⟨x, hx, h1, h2⟩ := hh
  rcases hg with ⟨k, i, _, rfl⟩ | ⟨k, _, rfl⟩
  · refine ⟨x, ?_, h1, h2⟩
    have : x ∈ s.L.take i ++ s.L.drop i := by rw [List.take_append_drop]; exact hx
    simp only [placed]
    rcases List.mem_append.1 this with h | h
    · exact List.mem_append.2 (.inl h)
    · exact List.mem_append.2 (.inr (List.mem_cons_of_mem _ h))
  · obtain ⟨j, hj⟩ := List.mem_iff_getElem?.1 hx
    have hc := comp_get s.L j x hj 0
    refine ⟨{ x with f := 0 + sumN (s.L.take j) }, ?_, h1, h2⟩
    have : { x with f := 0 + sumN (s.L.take j) } ∈ (comp 0 s.L).take s.L.length ++ (comp 0 s.L).drop s.L.length := by rw [List.take_append_drop]; exact List.mem_of_getElem? hc
    simp only [placed]
    rcases List.mem_append.1 this with h | h
    · exact List.mem_append.2 (.inl h)
    · exact List.mem_append.2 (.inr (List.mem_cons_of_mem _ h))
theorem Has.freed {s : St} {h j : Nat} {x : Blk} {ds : List Int} (hh : Has s h ds) (hg : Good s) (hx : s.L[j]? = some x) (hn : x.h ≠ h) : Has (freed s j x) h ds := by
  obtain ⟨y, hy, h1, h2⟩ := hh
  refine ⟨y, (mem_del hg.hnd hx y).2 ⟨?_, hy⟩, h1, h2⟩
  rw [h1]; exact fun e => hn e.symm
theorem Has.wrote {s : St} {h j : Nat} {x : Blk} {ds es : List Int} (hh : Has s h ds) (hx : s.L[j]? = some x) (hn : x.h ≠ h) : Has (wrote s j x es) h ds := by
  obtain ⟨y, hy, h1, h2⟩ := hh
  obtain ⟨i, hi⟩ := List.mem_iff_getElem?.1 hy
  refine ⟨y, List.mem_iff_getElem?.2 ⟨i, ?_⟩, h1, h2⟩
  simp only [Ythllilkafdgheaa.wrote]
  rw [List.getElem?_set, if_neg]
  · exact hi
  · rintro rfl
    rw [hx] at hi; cases hi
    exact hn h1
theorem Given.next {s s' : St} {m : Nat} (hg : Given s m s') : s'.next = s.next + 1 ∧ s'.cap = s.cap := by
  rcases hg with ⟨k, i, _, rfl⟩ | ⟨k, _, rfl⟩ <;> exact ⟨rfl, rfl⟩
/-- Where the block that Give places stands. -/
theorem Given.at {s s' : St} {m : Nat} (hg : Given s m s') : ∃ (j : Nat) (x : Blk), s'.L[j]? = some x ∧ x.h = s.next + 1 ∧ x.n = m := by
  rcases hg with ⟨k, i, hgap, rfl⟩ | ⟨k, _, rfl⟩
  · refine ⟨i, ⟨s.next + 1, E s.L i, m, List.replicate m 0⟩, ?_, rfl, rfl⟩
    have := hgap.le3
    simp only [placed]
    rw [List.getElem?_append_right (by simp; omega), show i - (s.L.take i).length = 0 by simp; omega]; rfl
  · refine ⟨s.L.length, ⟨s.next + 1, E (comp 0 s.L) s.L.length, m, List.replicate m 0⟩, ?_, rfl, rfl⟩
    simp only [placed]
    rw [List.getElem?_append_right (by simp [comp_length]), show s.L.length - ((comp 0 s.L).take s.L.length).length = 0 by simp [comp_length]]; rfl
theorem row_reads {g n cap : Nat} {e : TypeId} {ds : List Int} {w : World} (h : Row e 1 g n cap (ds.map (Value.int .i64)) w) (hw : ∀ k, k ∈ ds → (Lit.int .i64 k).wf = true) : ReadsI (some ⟨g, 0, none⟩) n ds w := by
  refine ⟨by have := h.len; simp at this; omega, by have := h.cap_le; omega, hw, fun i k hk => ⟨g, 0, rfl, ?_⟩⟩
  rw [Nat.zero_add]
  exact h.cell (by rw [List.getElem?_map, hk]; rfl)
theorem owns_reads {B n : Nat} {e : TypeId} {v : Value} {ds : List Int} {w : World} (h : w.ownsRow B e 1 v n (ics ds)) (hn : n ≤ maxLen) (hw : ∀ k, k ∈ ds → (Lit.int .i64 k).wf = true) : ∃ b c, v = .slice b n c ∧ ReadsI b n ds w := by
  have hl := h.1
  obtain ⟨b, c, rfl, hc⟩ := owns_slice h
  refine ⟨b, c, rfl, by unfold ics at hl; simp at hl; omega, hn, hw, fun i k hk => ?_⟩
  obtain ⟨g, rfl, h1⟩ := hc i (.int .i64 k) (by unfold ics; rw [List.getElem?_map, hk]; rfl)
  exact ⟨g, 0, rfl, by rw [Nat.zero_add]; exact h1⟩
section
variable {w : World} {p : Nat} {s : St} {w1 : World}
theorem Fresh.getHas (h : Fresh w p s w1) {H m : Nat} {ds : List Int} (hh : Has s H ds) (hm : m = ds.length) (hw : ∀ k, k ∈ ds → (Lit.int .i64 k).wf = true) :
    Calls Try.prog 15 #[.pointer (some ⟨p, 0, none⟩), .int .i64 H] w1 fun e w' => ∃ g c, e = .returned (.tuple #[.slice (some ⟨g, 0, none⟩) m c, .int .i64 0]) ∧ ReadsI (some ⟨g, 0, none⟩) m ds w' ∧ Fresh w p s w' ∧ Oth [] w1 w' := by
  obtain ⟨x, hx, rfl, rfl⟩ := hh
  obtain ⟨j, hj⟩ := List.mem_iff_getElem?.1 hx
  have hxn : x.n = m := by rw [hm]; exact (h.good.blk x hx).2.2.1.symm
  have := h.getM hj
  rw [hxn] at this
  refine this.mono ?_
  rintro e w' ⟨g, c, rfl, h1, h2, h3, h4⟩
  exact ⟨g, c, rfl, row_reads h2 hw, h3, h4⟩
theorem Fresh.putR (h : Fresh w p s w1) {j : Nat} {x : Blk} (hx : s.L[j]? = some x) {H : Nat} (hH : x.h = H) (b : Option Addr) (m c : Nat) (ds : List Int) (hm : m = x.n) (hr : ReadsI b m ds w) :
    Calls Try.prog 14 #[.pointer (some ⟨p, 0, none⟩), .int .i64 H, .slice b m c] w1 fun e w' => e = .returned (.int .i64 0) ∧ ∃ s', s'.next = s.next ∧ Has s' H ds ∧ Fresh w p s' w' ∧ Mv p s w1 s' w' := by
  subst hH
  have hxb := h.good.blk x (List.mem_of_getElem? hx)
  obtain ⟨v0, hv0⟩ : ∃ v, ds[0]? = some v := ⟨_, List.getElem?_eq_getElem (by have := hr.1; omega)⟩
  obtain ⟨g, off, rfl, c0⟩ := hr.2.2.2 0 v0 hv0
  refine (h.putM hx ⟨g, off, none⟩ m c ds hm hr.1.symm (fun i v hv => ?_) (h.old (World.block_lt_of_cell? w _ c0))).mono ?_
  · obtain ⟨g', off', he, c1⟩ := hr.2.2.2 i v hv
    cases he
    rw [Addr.add_lit]
    exact h.oth.cell c1 (by simp)
  · rintro e w' ⟨rfl, hf, hmv⟩
    refine ⟨rfl, Ythllilkafdgheaa.wrote s j x ds, rfl, ⟨{ x with d := ds }, List.mem_iff_getElem?.2 ⟨j, ?_⟩, rfl, rfl⟩, hf, hmv⟩
    simp only [Ythllilkafdgheaa.wrote]
    rw [List.getElem?_set, if_pos rfl, if_pos (List.getElem?_eq_some_iff.1 hx).1]
end
end Go.Proofs.Ythllilkafdgheaa
