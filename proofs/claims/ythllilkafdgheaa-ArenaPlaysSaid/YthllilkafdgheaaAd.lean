/- Blocks as cells; the map of positions as a datum; what it holds after a store or a delete. No condition. -/
import Derived.Test.YthllilkafdgheaaAc
import Derived.Maps.OwnSet
import Derived.Maps.OwnOps
import Derived.Maps.Views
namespace Go.Proofs.Ythllilkafdgheaa
open Go.RowKit
set_option linter.unusedVariables false

/-- A block: its handle, its position, its words, its cells. -/
structure Blk where
  h : Nat
  f : Nat
  n : Nat
  d : List Int

/-- Blocks as cells. -/
def bcs : List Blk → List Value
  | [] => []
  | b :: r => .int .i64 b.h :: .int .i64 b.f :: .int .i64 b.n :: bcs r
theorem bcs_length (L : List Blk) : (bcs L).length = L.length * 3 := by
  induction L with
  | nil => rfl
  | cons x r ih => simp only [bcs, List.length_cons, ih]; omega
theorem bcs_append (l m : List Blk) : bcs (l ++ m) = bcs l ++ bcs m := by
  induction l with
  | nil => rfl
  | cons x r ih => simp [bcs, ih]
theorem bcs_get : ∀ (L : List Blk) (i : Nat) (b : Blk), L[i]? = some b → (bcs L)[i * 3]? = some (.int .i64 b.h) ∧ (bcs L)[i * 3 + 1]? = some (.int .i64 b.f) ∧ (bcs L)[i * 3 + 2]? = some (.int .i64 b.n)
  | x :: r, 0, b, h => by simp at h; subst h; simp [bcs]
  | x :: r, i + 1, b, h => by
    rw [show (i + 1) * 3 = i * 3 + 3 by omega, show i * 3 + 3 + 1 = i * 3 + 1 + 3 by omega, show i * 3 + 3 + 2 = i * 3 + 2 + 3 by omega]
    simp only [bcs, List.getElem?_cons_succ]
    exact bcs_get r i b (by simpa using h)
theorem bcs_take (L : List Blk) (i : Nat) : (bcs L).take (i * 3) = bcs (L.take i) := by
  induction L generalizing i with
  | nil => simp [bcs]
  | cons x r ih =>
    cases i with
    | zero => simp [bcs]
    | succ i => rw [show (i + 1) * 3 = i * 3 + 3 by omega]; simp [bcs, ih]
theorem bcs_drop (L : List Blk) (i : Nat) : (bcs L).drop (i * 3) = bcs (L.drop i) := by
  induction L generalizing i with
  | nil => simp [bcs]
  | cons x r ih =>
    cases i with
    | zero => simp [bcs]
    | succ i => rw [show (i + 1) * 3 = i * 3 + 3 by omega]; simp [bcs, ih]
theorem bcs_ins (L : List Blk) (i : Nat) (b : Blk) : insAt (bcs L) (i * 3) (.int .i64 b.h) (.int .i64 b.f) (.int .i64 b.n) = bcs (L.take i ++ b :: L.drop i) := by
  unfold insAt
  rw [bcs_take, bcs_drop, bcs_append]; rfl
theorem bcs_del (L : List Blk) (i : Nat) : (bcs L).take (i * 3) ++ (bcs L).drop ((i + 1) * 3) = bcs (L.take i ++ L.drop (i + 1)) := by
  rw [bcs_take, bcs_drop, bcs_append]
theorem bcs_one (L : List Blk) : ∀ u ∈ bcs L, u.oneCell' = true := by
  induction L with
  | nil => intro u hu; simp [bcs] at hu
  | cons x r ih =>
    intro u hu
    simp only [bcs, List.mem_cons] at hu
    rcases hu with rfl | rfl | rfl | hu
    · rfl
    · rfl
    · rfl
    · exact ih u hu
theorem bcs_set : ∀ (L : List Blk) (i : Nat) (b : Blk) (f' : Nat), L[i]? = some b → (bcs L).set (i * 3 + 1) (.int .i64 f') = bcs (L.set i { b with f := f' })
  | x :: r, 0, b, f', h => by simp at h; subst h; simp [bcs]
  | x :: r, i + 1, b, f', h => by
    rw [show (i + 1) * 3 + 1 = i * 3 + 1 + 3 by omega]
    simp only [bcs, List.set_cons_succ]
    rw [bcs_set r i b f' (by simpa using h)]

/-- The map's datum holds the position of each block at its handle, and nothing else. -/
structure MD (D : DataW Unit) (L : List Blk) : Prop where
  tidy : Maps.Tidy D
  size : Maps.size D = L.length
  yes : ∀ b, b ∈ L → Maps.has D (.int .i64 b.h) = true ∧ ∀ z, D.atKey (.int .i64 b.h) z = .lit (.int .i64 b.f)
  no : ∀ k : Int, (∀ b, b ∈ L → (b.h : Int) ≠ k) → Maps.has D (.int .i64 k) = false

theorem MD.nil : MD (.map []) [] := ⟨Maps.tidy_empty, rfl, fun b h => (by cases h), fun k _ => rfl⟩
theorem key_lit (k : Int) : WideAt.IsKeyLit (.int .i64 k) := by simp [WideAt.IsKeyLit]
theorem key_ne {k k' : Int} (h : k ≠ k') : (Lit.int .i64 k) ≠ (Lit.int .i64 k') := fun e => by cases e; exact h rfl
/-- A key set. -/
theorem MD.put {D : DataW Unit} {L L' : List Blk} (h : MD D L) (k f : Nat) (hl : L'.length = if (∃ b, b ∈ L ∧ b.h = k) then L.length else L.length + 1)
    (hm : ∀ b, b ∈ L' → (b.h = k ∧ b.f = f) ∨ (b.h ≠ k ∧ b ∈ L)) (hk : ∃ b, b ∈ L' ∧ b.h = k) (hb : ∀ b, b ∈ L → b.h ≠ k → ∃ b', b' ∈ L' ∧ b'.h = b.h) : MD (D.put (.int .i64 k) (.lit (.int .i64 f))) L' := by
  have him := h.tidy.isMap
  refine ⟨h.tidy.put (key_lit _) _, ?_, fun b hb' => ?_, fun j hj => ?_⟩
  · rw [Maps.size_put h.tidy]
    by_cases hx : ∃ b, b ∈ L ∧ b.h = k
    · obtain ⟨b, h1, h2⟩ := hx
      have := (h.yes b h1).1
      rw [h2] at this
      have hl2 : L'.length = L.length := by rw [hl, if_pos ⟨b, h1, h2⟩]
      rw [this, h.size, hl2]; rfl
    · have : Maps.has D (.int .i64 (k : Int)) = false := h.no k (fun b hb' e => hx ⟨b, hb', by omega⟩)
      have hl2 : L'.length = L.length + 1 := by rw [hl, if_neg hx]
      rw [this, h.size, hl2]; rfl
  · rcases hm b hb' with ⟨h1, h2⟩ | ⟨h1, h2⟩
    · rw [h1, h2]
      exact ⟨Maps.has_put_same him (key_lit _) _, fun z => Maps.atKey_put_same him (key_lit _) _ z⟩
    · have hne : (Lit.int .i64 (b.h : Int)) ≠ (Lit.int .i64 (k : Int)) := key_ne (by omega)
      have h3 := h.yes b h2
      exact ⟨(Maps.has_put_other hne _).trans h3.1, fun z => (Maps.atKey_put_other hne _ z).trans (h3.2 z)⟩
  · obtain ⟨b, h1, h2⟩ := hk
    have hjk : j ≠ (k : Int) := fun e => hj b h1 (by rw [e, h2])
    rw [Maps.has_put_other (key_ne hjk)]
    refine h.no j (fun b' hb' e => ?_)
    by_cases hbk : b'.h = k
    · exact hjk (by rw [← e, hbk])
    · obtain ⟨b'', h3, h4⟩ := hb b' hb' hbk
      exact hj b'' h3 (by rw [h4, e])
/-- A key taken out. -/
theorem MD.del {D : DataW Unit} {L L' : List Blk} (h : MD D L) (k : Nat) (hk : ∃ b, b ∈ L ∧ b.h = k) (hl : L'.length + 1 = L.length) (hm : ∀ b, b ∈ L' ↔ (b.h ≠ k ∧ b ∈ L)) : MD (D.del (.int .i64 k)) L' := by
  refine ⟨h.tidy.del _, ?_, fun b hb' => ?_, fun j hj => ?_⟩
  · obtain ⟨b, h1, h2⟩ := hk
    have h3 := (h.yes b h1).1
    rw [h2] at h3
    have := Maps.size_del (k := .int .i64 (k : Int)) h.tidy
    rw [h3, h.size] at this
    simp at this
    omega
  · obtain ⟨h1, h2⟩ := (hm b).1 hb'
    have hne : (Lit.int .i64 (b.h : Int)) ≠ (Lit.int .i64 (k : Int)) := key_ne (by omega)
    have h3 := h.yes b h2
    exact ⟨(Maps.has_del_other hne).trans h3.1, fun z => (Maps.atKey_del_other hne z).trans (h3.2 z)⟩
  · by_cases hjk : j = (k : Int)
    · subst hjk; exact Maps.has_del_same
    · rw [Maps.has_del_other (key_ne hjk)]
      refine h.no j (fun b hb e => hj b ((hm b).2 ⟨?_, hb⟩) e)
      intro e2; exact hjk (by rw [← e, e2])

/-- The map in block mb holds the positions of the blocks L. -/
def MapI (mb : Nat) (L : List Blk) (w : World) : Prop := ∃ D : DataW Unit, w.ownsMap Try.prog 3 (plainElem Try.prog 3) mb L.length D ∧ MD D L
theorem own_size {P : Program} {k : TypeId} {R : Value → Option (DataW Unit × List MemPlace)} {w : World} {b n : Nat} {D : DataW Unit} (h : w.ownsMap P k R b n D) : w.ownsMap P k R b (Maps.size D) D := by
  obtain ⟨es, clock, hb, F, hs, rfl⟩ := h
  exact ⟨es, clock, hb, F, by simp [Maps.size, length_sorted], rfl⟩
theorem mapI_of {mb n : Nat} {L : List Blk} {w : World} {D : DataW Unit} (h : w.ownsMap Try.prog 3 (plainElem Try.prog 3) mb n D) (hd : MD D L) : MapI mb L w := ⟨D, by rw [← hd.size]; exact own_size h, hd⟩
theorem MapI.oth {mb : Nat} {L : List Blk} {w w' : World} {S : List Nat} (h : MapI mb L w) (ho : Oth S w w') (hn : mb ∉ S) : MapI mb L w' := by
  obtain ⟨D, ⟨es, clock, hb, r⟩, hd⟩ := h
  exact ⟨D, ⟨es, clock, ho.heap hb hn, r⟩, hd⟩
theorem MapI.lt {mb : Nat} {L : List Blk} {w : World} (h : MapI mb L w) : mb < w.heap.size := by
  obtain ⟨D, ⟨es, clock, hb, r⟩, hd⟩ := h
  exact lt_of_block hb
theorem law3 : Maps.Keyed Try.prog 3 := Maps.int_keyed Try.underlying3
theorem zero3 (w : World) : (zeroValue 3).run Try.prog w = .ok (.int .i64 0) w := by kernel_rfl
end Go.Proofs.Ythllilkafdgheaa
