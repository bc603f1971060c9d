/- Rows in memory and frames: lemmas for the walks of slices.Insert. No condition. -/
import Derived.Test.YtnpdcjdmbkcpbaaGreatRows
import Derived.WalkKit
import Derived.WalkSpells
import Derived.WalkLawsBesides
import Derived.Lib.Hide
import Derived.Below
import Derived.OneCell
import Derived.LoopTactic
import Derived.Outline
import Derived.BigQuiet
import Derived.Deep.QuietTactic
import Derived.Lib.Overlaps
import Derived.Lib.AppendZerosOnto
import Derived.Laws.IdiomCopy
import Derived.Laws.Externs
import Derived.Laws.NewBlocks
import Derived.Lib.JoinLaws
import Derived.Lib.SliceRun
import Derived.Maps.AppendAt
import Derived.Deep.RegionLaw
namespace Go.Proofs.YtnpdcjdmbkcpbaaGreat.Ins
open Go.RowKit
set_option linter.unusedVariables false

/-- All blocks but those of S are as they were. -/
structure Oth (S : List Nat) (w w' : World) : Prop where
  os : w'.os = w.os
  tape : w'.tape = w.tape
  output : w'.output = w.output
  size : w.heap.size ≤ w'.heap.size
  block : ∀ k, k < w.heap.size → k ∉ S → w'.heap[k]? = w.heap[k]?

/-- What is in S' was in S or is new. -/
def Fr (S : List Nat) (w : World) (S' : List Nat) : Prop := ∀ k, k ∈ S' → k ∈ S ∨ w.heap.size ≤ k

theorem Fr.refl (S : List Nat) (w : World) : Fr S w S := fun _ h => .inl h
theorem Fr.nil (S : List Nat) (w : World) : Fr S w [] := fun _ h => absurd h (by simp)
theorem Fr.sub {S : List Nat} {w : World} {T U : List Nat} (h : Fr S w T) (hU : ∀ k, k ∈ U → k ∈ T) : Fr S w U := fun k hk => h k (hU k hk)
theorem Fr.grow {S S' : List Nat} {w : World} {T : List Nat} (h : Fr S w T) (hU : ∀ k, k ∈ S → k ∈ S') : Fr S' w T := fun k hk => (h k hk).imp (hU k) id

theorem Oth.refl (S : List Nat) (w : World) : Oth S w w := ⟨rfl, rfl, rfl, Nat.le_refl _, fun _ _ _ => rfl⟩
theorem Oth.trans {S S' : List Nat} {a b c : World} (h : Oth S a b) (k : Oth S' b c) (hf : Fr S a S') : Oth S a c :=
  ⟨k.os.trans h.os, k.tape.trans h.tape, k.output.trans h.output, Nat.le_trans h.size k.size, fun i hi hn =>
    (k.block i (Nat.lt_of_lt_of_le hi h.size) (fun e => by rcases hf i e with h | h; exact hn h; omega)).trans (h.block i hi hn)⟩
theorem Fr.trans {S S' T : List Nat} {a b : World} (h : Fr S a S') (hs : a.heap.size ≤ b.heap.size) (k : Fr S' b T) : Fr S a T := fun i hi => by
  rcases k i hi with e | e
  · exact h i e
  · exact .inr (Nat.le_trans hs e)
theorem Oth.mono {S S' : List Nat} {a b : World} (h : Oth S a b) (hs : ∀ k, k ∈ S → k ∈ S') : Oth S' a b := ⟨h.os, h.tape, h.output, h.size, fun k hk hn => h.block k hk (fun e => hn (hs k e))⟩
theorem Oth.alloc {S : List Nat} {a w : World} (h : Oth S a w) (o : Obj) : Oth S a (w.alloc o) :=
  h.trans (S' := []) ⟨rfl, rfl, rfl, by simp, fun k hk _ => Below.heap_alloc _ _ _ hk⟩ (Fr.nil _ _)
theorem Oth.drew {S : List Nat} {a w : World} (h : Oth S a w) : Oth S a w.drew := ⟨h.os, h.tape, h.output, h.size, h.block⟩
theorem Oth.drewN {S : List Nat} {a w : World} (h : Oth S a w) (n : Nat) : Oth S a (w.drewN n) := ⟨h.os, h.tape, h.output, h.size, h.block⟩
theorem Oth.setCell {S : List Nat} {a w : World} (h : Oth S a w) {p : Addr} (hp : p.block ∈ S ∨ a.heap.size ≤ p.block) (u : Value) : Oth S a (w.setCell p u) :=
  h.trans (S' := [p.block]) ⟨rfl, rfl, rfl, by simp [World.setCell], fun k hk hn => Below.heap_setCell _ _ _ _ (by simpa using hn)⟩ (fun k hk => by simp at hk; subst hk; exact hp)
theorem oth_setCells (b : Nat) : ∀ (vs : List Value) (o : Nat) (w : World), Oth [b] w (w.setCells b o vs)
  | [], _, w => Oth.refl _ _
  | v :: r, o, w => ((Oth.refl [b] w).setCell (p := ⟨b, o, none⟩) (.inl (by simp)) v).trans (oth_setCells b r (o + 1) _) (Fr.refl _ _)
theorem Oth.setCells {S : List Nat} {a w : World} (h : Oth S a w) {b : Nat} (hp : b ∈ S ∨ a.heap.size ≤ b) (o : Nat) (vs : List Value) : Oth S a (w.setCells b o vs) :=
  h.trans (oth_setCells b vs o w) (fun k hk => by simp at hk; subst hk; exact hp)
theorem Oth.grown {S : List Nat} {a w w' : World} {row : Option Nat} (h : Oth S a w) (hg : w.grownBy w' row) (hr : ∀ k, row = some k → k ∈ S ∨ a.heap.size ≤ k) : Oth S a w' := by
  cases row with
  | none => exact h.trans (S' := []) ⟨hg.os, hg.tape, hg.output, hg.size, fun k hk _ => hg.block k hk (by simp)⟩ (Fr.nil _ _)
  | some r => exact h.trans (S' := [r]) ⟨hg.os, hg.tape, hg.output, hg.size, fun k hk hn => hg.block k hk (by simpa using hn)⟩ (fun k hk => by simp at hk; subst hk; exact hr k rfl)
theorem Oth.below {S : List Nat} {w w' : World} (h : Oth S w w') {B : Nat} (hB : B ≤ w.heap.size) (hS : ∀ k, k ∈ S → B ≤ k) : Below B w w' :=
  ⟨h.os, h.tape, h.output, h.size, fun k hk => h.block k (by omega) (fun e => by have := hS k e; omega)⟩
theorem oth_of_below {w w' : World} (h : Below w.heap.size w w') : Oth [] w w' := ⟨h.os, h.tape, h.output, h.size, fun k hk _ => h.block k hk⟩
theorem Oth.cell {S : List Nat} {w w' : World} (h : Oth S w w') {p : Addr} {v : Value} (hp : w.cell? p = some v) (hn : p.block ∉ S) : w'.cell? p = some v := by
  rw [World.cell?_of_block (w := w) (h.block p.block (World.block_lt_of_cell? w p hp) hn)]; exact hp
theorem Oth.heap {S : List Nat} {w w' : World} (h : Oth S w w') {p : Nat} {o : Obj} (hp : w.heap[p]? = some o) (hn : p ∉ S) : w'.heap[p]? = some o := by
  rw [h.block p (lt_of_block hp) hn]; exact hp

/-- The cells vs written into an array from place o on. -/
def wr (cur : Array Value) : Nat → List Value → Array Value
  | _, [] => cur
  | o, v :: r => wr (cur.setIfInBounds o v) (o + 1) r
theorem wr_size : ∀ (vs : List Value) (o : Nat) (cur : Array Value), (wr cur o vs).size = cur.size
  | [], _, _ => rfl
  | v :: r, o, cur => by rw [wr, wr_size r]; simp
theorem wr_get : ∀ (vs : List Value) (o : Nat) (cur : Array Value) (k : Nat), o + vs.length ≤ cur.size → (wr cur o vs)[k]? = if o ≤ k ∧ k < o + vs.length then vs[k - o]? else cur[k]?
  | [], o, cur, k, _ => by rw [wr, if_neg (by simp)]
  | v :: r, o, cur, k, h => by
    simp only [List.length_cons] at h
    rw [wr, wr_get r (o + 1) _ k (by simp; omega)]
    simp only [List.length_cons]
    by_cases h1 : k = o
    · subst h1
      rw [if_neg (by omega), if_pos (by omega)]
      rw [Array.getElem?_setIfInBounds_self_of_lt (by omega)]; simp
    · by_cases h2 : o + 1 ≤ k ∧ k < o + 1 + r.length
      · rw [if_pos h2, if_pos (by omega)]
        obtain ⟨m, rfl⟩ : ∃ m, k = o + 1 + m := ⟨k - (o + 1), by omega⟩
        rw [show o + 1 + m - o = m + 1 by omega, show o + 1 + m - (o + 1) = m by omega]
        simp
      · rw [if_neg h2, if_neg (by omega), Array.getElem?_setIfInBounds_ne (by omega)]
theorem heap_setCells (b : Nat) : ∀ (vs : List Value) (o : Nat) (w : World) (cur : Array Value) (e : TypeId), w.heap[b]? = some (.cells cur e (0, 0)) → (w.setCells b o vs).heap[b]? = some (.cells (wr cur o vs) e (0, 0))
  | [], _, _, _, _, h => h
  | v :: r, o, w, cur, e, h => by
    rw [World.setCells, wr]
    refine heap_setCells b r (o + 1) _ _ e ?_
    simp [World.setCell, Array.getElem?_modify, h]

/-- A row of n elements of z cells each in block g. -/
def Row (e : TypeId) (z g n cap : Nat) (xs : List Value) (w : World) : Prop :=
  ∃ cur, w.heap[g]? = some (.cells cur e (0, 0)) ∧ n ≤ cap ∧ cap ≤ maxLen ∧ cur.size = cap * z ∧ xs.length = n * z ∧ ∀ j, j < n * z → cur[j]? = xs[j]?

section
variable {e : TypeId} {z g n cap : Nat} {xs : List Value} {w : World}
theorem Row.lt (h : Row e z g n cap xs w) : g < w.heap.size := by obtain ⟨cur, h, _⟩ := h; exact lt_of_block h
theorem Row.len (h : Row e z g n cap xs w) : xs.length = n * z := by obtain ⟨cur, h, _, _, _, hl, _⟩ := h; exact hl
theorem Row.cap_le (h : Row e z g n cap xs w) : n ≤ cap ∧ cap ≤ maxLen := by obtain ⟨cur, h, h1, h2, _⟩ := h; exact ⟨h1, h2⟩
theorem Row.cell (h : Row e z g n cap xs w) {j : Nat} {x : Value} (hj : xs[j]? = some x) : w.cell? ⟨g, j, none⟩ = some x := by
  have hl : j < xs.length := (List.getElem?_eq_some_iff.1 hj).1
  obtain ⟨cur, h, _, _, _, hn, ht⟩ := h
  simp only [World.cell?, h]
  rw [ht j (by omega)]; exact hj
theorem Row.there (h : Row e z g n cap xs w) {j : Nat} (hj : j < cap * z) : (w.cell? ⟨g, j, none⟩).isSome = true := by
  obtain ⟨cur, h, _, _, hs, hn, ht⟩ := h
  simp only [World.cell?, h]
  rw [Array.getElem?_eq_getElem (by omega)]; rfl
theorem Row.free (h : Row e z g n cap xs w) (j : Nat) : w.frozen? ⟨g, j, none⟩ = false := by obtain ⟨cur, h, _⟩ := h; simp [World.frozen?, h]
theorem Row.oth (h : Row e z g n cap xs w) {w' : World} {S : List Nat} (ho : Oth S w w') (hg : g ∉ S) : Row e z g n cap xs w' := by
  obtain ⟨cur, h, r⟩ := h
  exact ⟨cur, ho.heap h hg, r⟩
theorem Row.drew (h : Row e z g n cap xs w) : Row e z g n cap xs w.drew := h
theorem Row.alloc (h : Row e z g n cap xs w) (o : Obj) : Row e z g n cap xs (w.alloc o) := h.oth (S := []) ((Oth.refl _ _).alloc o) (by simp)
theorem Row.owns (h : Row e z g n cap xs w) : w.ownsRow 0 e z (.slice (some ⟨g, 0, none⟩) n cap) n xs := by
  obtain ⟨cur, h, h1, h2, h3, h4, h5⟩ := h
  refine ⟨h4, Or.inr ⟨g, cap, cur, rfl, Nat.zero_le _, h, h1, h2, h3, ?_⟩⟩
  apply List.ext_getElem?
  intro j
  rw [List.getElem?_take]
  by_cases hj : j < n * z
  · rw [if_pos hj, Array.getElem?_toList, h5 j hj]
  · rw [if_neg hj, List.getElem?_eq_none (by omega)]
end
theorem row_of_owns {w : World} {B : Nat} {e : TypeId} {z n : Nat} {v : Value} {xs : List Value} (h : w.ownsRow B e z v n xs) (h0 : 0 < n) :
    ∃ g cap, v = .slice (some ⟨g, 0, none⟩) n cap ∧ B ≤ g ∧ Row e z g n cap xs w := by
  obtain ⟨hl, ⟨_, h⟩ | ⟨g, cap, cur, rfl, hg, hcur, hcap, hmx, hsc, htk⟩⟩ := h
  · omega
  · refine ⟨g, cap, rfl, hg, ⟨cur, hcur, hcap, hmx, hsc, hl, fun j hj => ?_⟩⟩
    rw [← htk, List.getElem?_take, if_pos hj, Array.getElem?_toList]

/-- 'copy' at elements of whatever size. -/
theorem run_copy_cellsZ {P : Program} (w : World) (dT sT ty elem : TypeId) (z b o dLen dCap : Nat) (a : Addr) (sLen sCap : Nat) (cs : List Value)
    (hu : P.underlying dT = some (.slice elem)) (hs : (P.info? elem).map (·.size) = some z) (hn : cs.length = Nat.min sLen dLen * z)
    (hsrc : ∀ j v, cs[j]? = some v → w.cell? (a.add j) = some v) (hc : ∀ j, j < cs.length → (w.cell? ⟨b, o + j, none⟩).isSome = true) (hf : ∀ j, j < cs.length → w.frozen? ⟨b, o + j, none⟩ = false) (h1 : ∀ v ∈ cs, v.oneCell' = true) :
    (Builtin.copy_ #[dT, sT] ty #[.slice (some ⟨b, o, none⟩) dLen dCap, .slice (some a) sLen sCap]).run P w = .ok (goInt (Nat.min sLen dLen)) (w.setCells b o cs) := by
  have hl := run_loadCells_list (P := P) w a cs hsrc
  have hst := run_storeCells_cells (P := P) b o cs 0 w (by simpa using hc) (by simpa using hf) h1
  cases hq : P.info? elem with
  | none => simp [hq] at hs
  | some i =>
    have hi : i.size = z := by simpa [hq] using hs
    simp [Builtin.copy_, run_underlying hu, Builtin.lenOf, Builtin.firstCells, sizeOf, typeInfo, hq, hi, ← hn, hl, hst]

theorem wp_copy_runI {P : Program} (w : World) {o : Oper} {a : Act} {K : Act → World → Prop} {Q : Exit → Act → World → Prop} (d s : Operand) (t t' : TypeId)
    (ho : o.op = .call { callee := .builtin .copy, args := #[d, s], argTypes := #[t, t'] }) (v u : Value) (hd : a.eval d = v) (hs : a.eval s = u) {v' : Value} {w' : World}
    (hr : (Builtin.copy_ #[t, t'] o.type #[v, u]).run P w = .ok v' w') (h : K (a.put o.dst v') w') : o.wp P a w K Q := by
  unfold Oper.wp execOp
  simp only [ho, resolve, invoke, builtin, Sem.run_bind, Sem.run_pure, Result.andThen_ok, List.map_toArray, List.map_cons, List.map_nil, hd, hs, hr]
  exact h
theorem wpList_copy_runI {P : Program} (w : World) {ops : Array Oper} {rest : List Oper} {o : Oper} {a : Act} {Q : Exit → Act → World → Prop} (hgd : o.guard = none) (d s : Operand) (t t' : TypeId)
    (ho : o.op = .call { callee := .builtin .copy, args := #[d, s], argTypes := #[t, t'] }) (v u : Value) (hd : a.eval d = v) (hs : a.eval s = u) {v' : Value} {w' : World}
    (hr : (Builtin.copy_ #[t, t'] o.type #[v, u]).run P w = .ok v' w') (h : wpList P ops Q rest (a.put o.dst v') w') : wpList P ops Q (o :: rest) a w :=
  wpList_plain hgd fun _ hK => wp_copy_runI w d s t t' ho v u hd hs hr (hK _ _ h)
theorem step_copy_runI {P : Program} {ops : Array Oper} {o : Oper} {a : Act} {w : World} {K : Act → World → Prop} {Q : Exit → Act → World → Prop} {E : Prop}
    (hg : o.guard = none) (d x : Operand) (dT sT : TypeId) (hop : o.op = Op.call { callee := Callee.builtin Builtin.copy, args := #[d, x], argTypes := #[dT, sT] })
    (v u : Value) (hd : a.eval d = v) (hx : a.eval x = u) {v' : Value} {w' : World} (hr : (Builtin.copy_ #[dT, sT] o.type #[v, u]).run P w = .ok v' w') (hK : K (a.put o.dst v') w') :
    if Region.wanted o (yielded ops a.tmps) = true then Oper.wp P o a w K Q else E := by
  have hw : Region.wanted o (yielded ops a.tmps) = true := by simp [Region.wanted, hg]
  rw [if_pos hw]
  unfold Oper.wp
  simp [execOp, hop, resolve, invoke, builtin, hd, hx, hr, Result.andThen]
  exact hK

/-- One block set into a list of cells. -/
def insAt (xs : List Value) (k : Nat) (a b c : Value) : List Value := xs.take k ++ a :: b :: c :: xs.drop k
theorem insAt_get (xs : List Value) (k : Nat) (a b c : Value) (j : Nat) (hk : k ≤ xs.length) : (insAt xs k a b c)[j]? = if j < k then xs[j]? else if j = k then some a else if j = k + 1 then some b else if j = k + 2 then some c else xs[j - 3]? := by
  unfold insAt
  have hl : (xs.take k).length = k := by simp; omega
  by_cases h1 : j < k
  · rw [if_pos h1, List.getElem?_append_left (by omega), List.getElem?_take, if_pos h1]
  · rw [if_neg h1, List.getElem?_append_right (by omega), hl]
    by_cases h2 : j = k
    · subst h2; simp
    · rw [if_neg h2]
      by_cases h3 : j = k + 1
      · subst h3; rw [if_pos rfl, show k + 1 - k = 1 by omega]; rfl
      · rw [if_neg h3]
        by_cases h4 : j = k + 2
        · subst h4; rw [if_pos rfl, show k + 2 - k = 2 by omega]; rfl
        · rw [if_neg h4]
          obtain ⟨m, rfl⟩ : ∃ m, j = k + 3 + m := ⟨j - (k + 3), by omega⟩
          rw [show k + 3 + m - k = m + 3 by omega, show k + 3 + m - 3 = k + m by omega]
          simp
theorem insAt_length (xs : List Value) (k : Nat) (a b c : Value) (hk : k ≤ xs.length) : (insAt xs k a b c).length = xs.length + 3 := by
  unfold insAt; simp; omega

theorem row_shift {e : TypeId} {g n cap i : Nat} {xs : List Value} {w : World} (a b c : Value) (h : Row e 3 g n cap xs w) (hi : i ≤ n) (hc : n + 1 ≤ cap) :
    Row e 3 g (n + 1) cap (insAt xs (i * 3) a b c) ((w.drew.setCells g ((i + 1) * 3) (xs.drop (i * 3))).setCells g (i * 3) [a, b, c]) := by
  have hl := h.len
  obtain ⟨cur, hh, h1, h2, h3, h4, h5⟩ := h
  refine ⟨_, heap_setCells g _ _ _ _ e (heap_setCells g _ _ w.drew cur e hh), hc, h2, by rw [wr_size, wr_size]; exact h3, by rw [insAt_length _ _ _ _ _ (by omega)]; omega, fun j hj => ?_⟩
  rw [insAt_get _ _ _ _ _ _ (by omega), wr_get _ _ _ _ (by rw [wr_size]; simp; omega), wr_get _ _ _ _ (by simp; omega)]
  simp only [List.length_cons, List.length_nil, List.length_drop, List.getElem?_drop]
  by_cases c1 : j < i * 3
  · rw [if_neg (by omega), if_neg (by omega), if_pos c1]; exact h5 j (by omega)
  · rw [if_neg c1]
    by_cases c2 : j = i * 3
    · subst c2; rw [if_pos (by omega)]; simp
    · rw [if_neg c2]
      by_cases c3 : j = i * 3 + 1
      · subst c3; rw [if_pos (by omega)]; simp
      · rw [if_neg c3]
        by_cases c4 : j = i * 3 + 2
        · subst c4; rw [if_pos (by omega)]; simp
        · rw [if_neg c4, if_neg (by omega), if_pos (by omega)]; congr 1; omega

theorem row_fresh {e : TypeId} {n G i : Nat} {xs : List Value} {w : World} (a b c : Value) (ROW : Array Value) (hl : xs.length = n * 3) (hi : i ≤ n) (hc : n + 1 ≤ G) (hG : G ≤ maxLen) (hs : ROW.size = G * 3) (hR : ∀ j, j < i * 3 → ROW[j]? = xs[j]?) :
    Row e 3 w.heap.size (n + 1) G (insAt xs (i * 3) a b c) ((((w.alloc (.cells ROW e)).drew.setCells w.heap.size (i * 3) [a, b, c]).drew).setCells w.heap.size ((i + 1) * 3) (xs.drop (i * 3))) := by
  have hh : ((w.alloc (.cells ROW e)).drew).heap[w.heap.size]? = some (.cells ROW e (0, 0)) := heap_alloc_new w _
  refine ⟨_, heap_setCells w.heap.size _ _ _ _ e (show (((w.alloc (.cells ROW e)).drew.setCells w.heap.size (i * 3) [a, b, c]).drew).heap[w.heap.size]? = _ from heap_setCells w.heap.size _ _ _ _ e hh), hc, hG, by rw [wr_size, wr_size]; exact hs, by rw [insAt_length _ _ _ _ _ (by omega)]; omega, fun j hj => ?_⟩
  rw [insAt_get _ _ _ _ _ _ (by omega), wr_get _ _ _ _ (by rw [wr_size]; simp; omega), wr_get _ _ _ _ (by simp; omega)]
  simp only [List.length_cons, List.length_nil, List.length_drop, List.getElem?_drop]
  by_cases c1 : j < i * 3
  · rw [if_neg (by omega), if_neg (by omega), if_pos c1]; exact hR j (by omega)
  · rw [if_neg c1]
    by_cases c2 : j = i * 3
    · subst c2; rw [if_neg (by omega), if_pos (by omega)]; simp
    · rw [if_neg c2]
      by_cases c3 : j = i * 3 + 1
      · subst c3; rw [if_neg (by omega), if_pos (by omega)]; simp
      · rw [if_neg c3]
        by_cases c4 : j = i * 3 + 2
        · subst c4; rw [if_neg (by omega), if_pos (by omega)]; simp
        · rw [if_neg c4, if_pos (by omega)]; congr 1; omega

theorem delAt_get (xs : List Value) (a b j : Nat) (ha : a ≤ b) (hb : b ≤ xs.length) : (xs.take a ++ xs.drop b)[j]? = if j < a then xs[j]? else xs[j - a + b]? := by
  have hl : (xs.take a).length = a := by rw [List.length_take]; omega
  by_cases h : j < a
  · rw [if_pos h, List.getElem?_append_left (by omega), List.getElem?_take, if_pos h]
  · rw [if_neg h, List.getElem?_append_right (by omega), hl, List.getElem?_drop]; congr 1; omega

theorem row_del {e : TypeId} {g n cap i m : Nat} {xs : List Value} {w : World} (h : Row e 3 g n cap xs w) (hn : n = i + 1 + m) (z1 z2 z3 : Value) :
    Row e 3 g (i + m) cap (xs.take (i * 3) ++ xs.drop ((i + 1) * 3)) ((w.drew.setCells g (i * 3) (xs.drop ((i + 1) * 3))).setCells g ((i + m) * 3) [z1, z2, z3]) := by
  have hl := h.len
  obtain ⟨cur, hh, h1, h2, h3, h4, h5⟩ := h
  refine ⟨_, heap_setCells g _ _ _ _ e (heap_setCells g _ _ w.drew cur e hh), by omega, h2, by rw [wr_size, wr_size]; exact h3, by simp; omega, fun j hj => ?_⟩
  rw [delAt_get _ _ _ _ (by omega) (by omega), wr_get _ _ _ _ (by rw [wr_size]; simp; omega), wr_get _ _ _ _ (by simp; omega)]
  simp only [List.length_cons, List.length_nil, List.length_drop, List.getElem?_drop]
  rw [if_neg (by omega)]
  by_cases c1 : j < i * 3
  · rw [if_neg (by omega), if_pos c1]; exact h5 j (by omega)
  · rw [if_pos (by omega), if_neg c1]; congr 1; omega

theorem Row.set {e : TypeId} {z g n cap : Nat} {xs : List Value} {w : World} (h : Row e z g n cap xs w) (j : Nat) (u : Value) : Row e z g n cap (xs.set j u) (w.setCell ⟨g, j, none⟩ u) := by
  obtain ⟨cur, hh, h1, h2, h3, h4, h5⟩ := h
  refine ⟨cur.setIfInBounds j u, by simp [World.setCell, Array.getElem?_modify, hh], h1, h2, by simpa using h3, by simpa using h4, fun i hi => ?_⟩
  rw [Array.getElem?_setIfInBounds, List.getElem?_set]
  have := h5 i hi
  by_cases e : j = i
  · subst e
    have hc : j < cur.size := by rw [h3]; exact Nat.lt_of_lt_of_le hi (Nat.mul_le_mul_right _ h1)
    simp [hc, h4, hi]
  · simp [e, this]
theorem Row.other {e : TypeId} {z g n cap : Nat} {xs : List Value} {w : World} (h : Row e z g n cap xs w) {a : Addr} (ha : g ≠ a.block) (u : Value) : Row e z g n cap xs (w.setCell a u) := by
  obtain ⟨cur, hh, r⟩ := h
  exact ⟨cur, by rw [Below.heap_setCell _ _ _ _ ha]; exact hh, r⟩
theorem two_set0 {w : World} {p : Nat} {x y u : Value} {t : TypeId} (h : w.heap[p]? = some (.cells #[x, y] t (0, 0))) : (w.setCell ⟨p, 0, none⟩ u).heap[p]? = some (.cells #[u, y] t (0, 0)) := by
  simp [World.setCell, Array.getElem?_modify, h]
theorem two_set1 {w : World} {p : Nat} {x y u : Value} {t : TypeId} (h : w.heap[p]? = some (.cells #[x, y] t (0, 0))) : (w.setCell ⟨p, 1, none⟩ u).heap[p]? = some (.cells #[x, u] t (0, 0)) := by
  simp [World.setCell, Array.getElem?_modify, h]
theorem one_set0 {w : World} {p : Nat} {x u : Value} {t : TypeId} (h : w.heap[p]? = some (.cells #[x] t (0, 0))) : (w.setCell ⟨p, 0, none⟩ u).heap[p]? = some (.cells #[u] t (0, 0)) := by
  simp [World.setCell, Array.getElem?_modify, h]
theorem heap_other {w : World} {p : Nat} {o : Obj} {a : Addr} (h : w.heap[p]? = some o) (ha : p ≠ a.block) (u : Value) : (w.setCell a u).heap[p]? = some o := by
  rw [Below.heap_setCell _ _ _ _ ha]; exact h
theorem owns_oth {w w' : World} {B : Nat} {e : TypeId} {z n : Nat} {v : Value} {xs : List Value} {S : List Nat} (h : w.ownsRow B e z v n xs) (ho : Oth S w w') (hd : ∀ k, v.ownBlock = some k → k ∉ S) : w'.ownsRow B e z v n xs := by
  obtain ⟨hl, h | ⟨g, cap, cur, rfl, hg, hh, r⟩⟩ := h
  · exact ⟨hl, .inl h⟩
  · exact ⟨hl, .inr ⟨g, cap, cur, rfl, hg, ho.heap hh (hd g rfl), r⟩⟩

theorem run_clear_one {P : Program} (w : World) (t e ty : TypeId) (z : Value) (ht : P.underlying t = some (.slice e)) (hv : ∀ w, (zeroValue e).run P w = .ok z w) (zs : List Value) (hzc : (Builtin.zeroCells z.cells 1).toList = zs) (h1 : ∀ u ∈ zs, u.oneCell' = true) (b o c : Nat)
    (hc : ∀ j, j < zs.length → (w.cell? ⟨b, o + j, none⟩).isSome = true) (hf : ∀ j, j < zs.length → w.frozen? ⟨b, o + j, none⟩ = false) :
    (Builtin.clear_ #[t] ty #[.slice (some ⟨b, o, none⟩) 1 c]).run P w = .ok (.tuple #[]) (w.setCells b o zs) := by
  have hst := run_storeCells_cells (P := P) b o zs 0 w (by simpa using hc) (by simpa using hf) h1
  simp only [Nat.add_zero] at hst
  simp [Builtin.clear_, run_underlying ht, hv, hzc, hst]
theorem wp_clear_run {P : Program} (w : World) {o : Oper} {a : Act} {K : Act → World → Prop} {Q : Exit → Act → World → Prop} (s : Operand) (t : TypeId)
    (ho : o.op = .call { callee := .builtin .clear, args := #[s], argTypes := #[t] }) (v : Value) (hs : a.eval s = v) {v' : Value} {w' : World}
    (hr : (Builtin.clear_ #[t] o.type #[v]).run P w = .ok v' w') (h : K (a.put o.dst v') w') : o.wp P a w K Q := by
  unfold Oper.wp execOp
  simp only [ho, resolve, invoke, builtin, Sem.run_bind, Sem.run_pure, Result.andThen_ok, List.map_toArray, List.map_cons, List.map_nil, hs, hr]
  exact h
theorem wpList_clear_run {P : Program} (w : World) {ops : Array Oper} {rest : List Oper} {o : Oper} {a : Act} {Q : Exit → Act → World → Prop} (hgd : o.guard = none) (s : Operand) (t : TypeId)
    (ho : o.op = .call { callee := .builtin .clear, args := #[s], argTypes := #[t] }) (v : Value) (hs : a.eval s = v) {v' : Value} {w' : World}
    (hr : (Builtin.clear_ #[t] o.type #[v]).run P w = .ok v' w') (h : wpList P ops Q rest (a.put o.dst v') w') : wpList P ops Q (o :: rest) a w :=
  wpList_plain hgd fun _ hK => wp_clear_run w s t ho v hs hr (hK _ _ h)

theorem step_append_runI {P : Program} {ops : Array Oper} {o : Oper} {a : Act} {w : World} {K : Act → World → Prop} {Q : Exit → Act → World → Prop} {E : Prop}
    (hg : o.guard = none) (d x : Operand) (dT sT : TypeId) (hop : o.op = Op.call { callee := Callee.builtin Builtin.append, args := #[d, x], argTypes := #[dT, sT] })
    (v u : Value) (hd : a.eval d = v) (hx : a.eval x = u) {v' : Value} {w' : World} (hr : (Builtin.append_ #[dT, sT] o.type #[v, u]).run P w = .ok v' w') (hK : K (a.put o.dst v') w') :
    if Region.wanted o (yielded ops a.tmps) = true then Oper.wp P o a w K Q else E := by
  have hw : Region.wanted o (yielded ops a.tmps) = true := by simp [Region.wanted, hg]
  rw [if_pos hw]
  unfold Oper.wp
  simp [execOp, hop, resolve, invoke, builtin, hd, hx, hr, Result.andThen]
  exact hK

end Go.Proofs.YtnpdcjdmbkcpbaaGreat.Ins
