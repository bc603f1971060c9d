/- Blocks yielded in order; the marks that ranges over a function leave. No condition. -/
import Derived.Test.YthllilkafdgheaaBf
import Derived.Test.YthllilkafdgheaaAua
import Derived.Sort.QuietIn
namespace Go.Proofs.Ythllilkafdgheaa
open Go.RowKit Go.Shelf
set_option linter.unusedVariables false
set_option linter.unusedSimpArgs false

/-- One of an arena's blocks. -/
abbrev BlkOf (s : St) : Type := { x : Blk // x ∈ s.L }
def vals {s : St} (l : List (BlkOf s)) : List Blk := l.map Subtype.val
theorem vals_append {s : St} (l m : List (BlkOf s)) : vals (l ++ m) = vals l ++ vals m := by simp [vals]
theorem vals_length {s : St} (l : List (BlkOf s)) : (vals l).length = l.length := by simp [vals]

theorem all_stops (n : Nat) (hn : 1 ≤ n) (B p : Nat) (K S : List Nat) (s : St) (h1 : s.L.length ≤ 1000) (w : World) (hK : ∀ k, k ∈ K → k < w.heap.size)
    (hB : w.cell? ⟨B, 0, none⟩ = some (.pointer (some ⟨p, 0, none⟩))) (ht : Ar p S s w) :
    SeqStopsK Fence.wide n Try.prog 33 #[.pointer (some ⟨B, 0, none⟩)] (fun x : BlkOf s => #[.agg #[.int .i64 x.1.h, .int .i64 x.1.f, .int .i64 x.1.n]]) (CK K) (fun ys => vals ys = s.L) (fun pre => vals pre <+: s.L) s.L.length w := fun l J Jx W hW hJ hJx hY h0 => by
  have ho := oth_of_below hW
  refine (all1 n l B p hn K S s h1 (fun pre W => ∃ q, vals q = pre ∧ J q W) (fun pre W => ∃ q, vals q = pre ∧ Jx q W) W (fun k hk => Nat.lt_of_lt_of_le (hK k hk) ho.size) ?_ ?_ (ho.cell hB (by simp)) (ht.oth ho (by simp)) ⟨[], rfl, h0⟩).mono ?_
  · rintro pre A C row ⟨q, hq, hJq⟩ hg hr
    exact ⟨q, hq, hJ q A C row hJq hg hr⟩
  · rintro pre x W1 ⟨q, rfl, hJq⟩ hpre
    have hx : x ∈ s.L := hpre.subset (by simp)
    have hlen : q.length < s.L.length := by
      have := hpre.length_le
      rw [List.length_append, vals_length] at this
      simp at this; omega
    obtain ⟨fn, tmps, assign, body, hy, hR⟩ := hY q ⟨x, hx⟩ W1 hJq hlen
    refine ⟨fn, tmps, assign, body, hy, hR.mono ?_⟩
    rintro e W' (⟨rfl, h2, h3⟩ | ⟨rfl, h2⟩)
    · exact .inl ⟨rfl, ⟨_, vals_append q [⟨x, hx⟩], h2⟩, h3⟩
    · exact .inr ⟨rfl, ⟨_, vals_append q [⟨x, hx⟩], h2⟩⟩
  · rintro e W' ⟨hv, h⟩
    refine ⟨hv, ?_⟩
    rcases h with ⟨ys, rfl, q, hq, hJq⟩ | ⟨pre, hp, q, rfl, hJq⟩
    · exact .inl ⟨q, hq, hJq⟩
    · exact .inr ⟨q, hp, hJq⟩

theorem Oth.putObj {S : List Nat} {a w : World} (h : Oth S a w) {D : Nat} (hD : D ∈ S ∨ a.heap.size ≤ D) (o : Obj) : Oth S a (w.putObj D o) :=
  h.grown (grownBy_putObj' w D o) (fun k e => by cases e; exact hD)
theorem oth_ownFrom {β : Type} {S : List Nat} {A : World} {B : Nat} (hB : A.heap.size ≤ B) : OwnFrom B (fun (_ : β) W => Oth S A W) := fun s W W' row hs hg hr =>
  hs.grown hg (fun k e => .inr (by have := (hr k e).1; omega))
theorem heap_ownFrom {β : Type} {B g : Nat} {f : β → Obj} (hf : ∀ s, (f s).isCells = true) : OwnFrom B (fun s W => W.heap[g]? = some (f s)) := fun s W W' row hs hg hr => by
  have hs' : W.heap[g]? = some (f s) := hs
  show W'.heap[g]? = some (f s)
  rw [hg.block g (lt_of_block hs') (fun e => ?_)]
  · exact hs
  · obtain ⟨_, o, ho, hc⟩ := hr g e.symm
    rw [hs'] at ho; cases ho
    rw [hf s] at hc; cases hc
/-- A piece of code that is left normally alone. -/
theorem wp_normal {P : Program} {c : Code} {K : Act → World → Prop} {Q : Exit → Act → World → Prop} {a : Act} {w : World} (h : c.wp P (Exit.then K (fun _ _ _ => False)) a w) : c.wp P (Exit.then K Q) a w :=
  Code.wp_mono (fun e a w h => by cases e <;> first | exact h | exact h.elim) h

/-- The marks of ranges over a function. -/
def marks (Ds : List Nat) : List Deferred := Ds.map (fun D => { target := .collected D, args := #[] })
/-- The marks' blocks shut. -/
def shut : List Nat → World → World
  | [], W => W
  | D :: r, W => shut r (W.putObj D (.deferred none))
theorem shut_oth {w : World} : ∀ (Ds : List Nat) (W : World), Oth [] w W → (∀ D, D ∈ Ds → w.heap.size ≤ D) → Oth [] w (shut Ds W)
  | [], W, h, _ => h
  | D :: r, W, h, hD => shut_oth r _ (h.putObj (.inr (hD D (by simp))) _) (fun k hk => hD k (by simp [hk]))
theorem shut_heap {g : Nat} : ∀ (Ds : List Nat) (W : World), g ∉ Ds → (shut Ds W).heap[g]? = W.heap[g]?
  | [], W, _ => rfl
  | D :: r, W, h => by
    simp only [List.mem_cons, not_or] at h
    rw [shut, shut_heap r _ h.2]
    exact World.putObj_heap_other h.1
theorem leaves_marks {F : Fence} {n : Nat} {P : Program} {fn : Func} {tmps : Array Value} {R : Ending → World → Prop} : ∀ (Ds : List Nat) (W : World), Ds.Nodup → (∀ D, D ∈ Ds → W.heap[D]? = some (.deferred (some []))) →
    LeavesIn F n P fn tmps R [] .returning (shut Ds W) → LeavesInM F n P fn tmps R (marks Ds) .returning W
  | [], W, _, _, h => h
  | D :: r, W, hn, hD, h => by
    obtain ⟨h1, h2⟩ := List.nodup_cons.1 hn
    refine ⟨by simp, .inl ⟨D, W.putObj D (.deferred none), rfl, run_takeDeferred (hD D (by simp)), leaves_marks r _ h2 (fun k hk => ?_) h⟩⟩
    have hne : k ≠ D := fun e => h1 (by rw [← e]; exact hk)
    exact (World.putObj_heap_other hne).trans (hD k (by simp [hk]))

theorem E_last (M : List Blk) (x : Blk) : E (M ++ [x]) (M.length + 1) = x.f + x.n := by
  have : (M ++ [x])[M.length]? = some x := by simp
  exact E_succ this
theorem not_pre {L M : List Blk} {x : Blk} (hs : Srt L) (h : x.f < E M M.length) : ¬ M ++ [x] <+: L := fun hp => by
  have hx : L[M.length]? = some x := by
    have := hp.getElem (i := M.length) (by simp)
    have hl := hp.length_le
    simp at hl
    rw [List.getElem?_eq_getElem (by omega), ← this]; simp
  have hM : ∀ i, i < M.length → M[i]? = L[i]? := fun i hi => by
    have hl := hp.length_le
    simp at hl
    have := hp.getElem (i := i) (by simp; omega)
    rw [List.getElem?_eq_getElem hi, List.getElem?_eq_getElem (by omega), ← this, List.getElem_append_left hi]
  rw [E_congr hM] at h
  cases hm : M.length with
  | zero => rw [hm] at h; simp [E] at h
  | succ m =>
    rw [hm] at h hx
    obtain ⟨y, hy⟩ : ∃ y, L[m]? = some y := ⟨_, List.getElem?_eq_getElem (by have := (List.getElem?_eq_some_iff.1 hx).1; omega)⟩
    rw [E_succ hy] at h
    obtain ⟨h1, h2⟩ := List.getElem?_eq_some_iff.1 hx
    obtain ⟨h3, h4⟩ := List.getElem?_eq_some_iff.1 hy
    have := List.pairwise_iff_getElem.1 hs m (m + 1) h3 h1 (by omega)
    rw [h2, h4] at this
    omega
theorem sumN_bound {M : List Blk} {B : Nat} (h : ∀ x, x ∈ M → x.n ≤ B) : sumN M ≤ M.length * B := by
  induction M with
  | nil => simp [sumN]
  | cons x r ih =>
    have h1 := ih (fun y hy => h y (by simp [hy]))
    have h2 := h x (by simp)
    rw [sumN_cons, List.length_cons, Nat.succ_mul]; omega
theorem E_leH {L : List Blk} {H : Nat} (h : ∀ x, x ∈ L → x.f + x.n ≤ H) (i : Nat) : E L i ≤ H := by
  cases i with
  | zero => exact Nat.zero_le _
  | succ m =>
    simp only [E]
    cases hq : L[m]? with
    | none => exact Nat.zero_le _
    | some x => exact h x (List.mem_of_getElem? hq)

/-- The arena and the marks beside it. -/
def BI (w1 : World) (p cp i : Nat) (Ds : List Nat) (W : World) : Prop := ∃ s, Fresh w1 p s W ∧ s.next ≤ i ∧ s.cap = cp ∧ Ds.Nodup ∧ ∀ D, D ∈ Ds → w1.heap.size ≤ D ∧ Bes p s W D ∧ W.heap[D]? = some (.deferred (some []))
theorem BI.mv {w1 : World} {p cp i : Nat} {Ds : List Nat} {s s' : St} {W W' : World} (hm : Mv p s W s' W') (hf : Fresh w1 p s' W') (hn : s'.next ≤ i) (hc : s'.cap = cp) (hd : Ds.Nodup) (hD : ∀ D, D ∈ Ds → w1.heap.size ≤ D ∧ Bes p s W D ∧ W.heap[D]? = some (.deferred (some []))) : BI w1 p cp i Ds W' := by
  refine ⟨s', hf, hn, hc, hd, fun D h => ?_⟩
  obtain ⟨h1, h2, h3⟩ := hD D h
  obtain ⟨h4, h5⟩ := hm.bes h2
  exact ⟨h1, h4, h5.trans h3⟩
end Go.Proofs.Ythllilkafdgheaa
