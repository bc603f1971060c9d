/- What a walk of step holds on its way. No condition. -/
import Derived.Test.YthllilkafdgheaaCh
namespace Go.Proofs.Ythllilkafdgheaa
open Go.RowKit
set_option linter.unusedVariables false
set_option linter.unusedSimpArgs false

/-- A result's state that is still zero. -/
def SZ (rb : Nat) (W : World) : Prop := W.heap[rb]? = some (.cells #[.int .i64 0, .int .i64 0, .int .i64 0, .int .i64 0, .int .i64 0, .slice none 0 0] 55 (0, 0))
/-- step under way: the arena is at s, the reference still at s0. -/
structure Stp (K : Nat → Obj → Prop) (w : World) (p sb : Nat) (s0 : St) (v : Value) (o : OpV) (B : List Nat) (R : List RB) (s : St) (W : World) : Prop where
  fr : Fresh w p s W
  new : w.heap.size ≤ sb
  sa : SC sb s0.cap s0.next s0.high s0.peak s0.moves v W
  bs : Bes p s W sb
  oa : W.heap[sb + 1]? = some (opc o)
  bo : Bes p s W (sb + 1)
  ra : SZ (sb + 2) W
  br : Bes p s W (sb + 2)
  rd : RdR B v R W
  bb : ∀ b, b ∈ B → Bes p s W b
  lt : ∀ b, b ∈ B → b < sb
  kp : ∀ k ob, K k ob → Bes p s W k ∧ W.heap[k]? = some ob
  kl : ∀ k ob, K k ob → k < sb
  bk : ∀ b, b ∈ B → ∀ ob, ¬ K b ob
variable {K : Nat → Obj → Prop}
theorem Stp.mv {w : World} {p sb : Nat} {s0 : St} {v : Value} {o : OpV} {B : List Nat} {R : List RB} {s s' : St} {W W' : World} (h : Stp K w p sb s0 v o B R s W) (hm : Mv p s W s' W') (hf : Fresh w p s' W') : Stp K w p sb s0 v o B R s' W' := by
  refine ⟨hf, h.new, (hm.bes h.bs).2.trans h.sa, (hm.bes h.bs).1, (hm.bes h.bo).2.trans h.oa, (hm.bes h.bo).1, (hm.bes h.br).2.trans h.ra, (hm.bes h.br).1, ?_, fun b hb => (hm.bes (h.bb b hb)).1, h.lt, fun k ob hk => ⟨(hm.bes (h.kp k ob hk).1).1, (hm.bes (h.kp k ob hk).1).2.trans (h.kp k ob hk).2⟩, h.kl, h.bk⟩
  obtain ⟨S, S', h1, h2, h3, h4⟩ := hm
  exact h.rd.oth h4 (fun k hk => (h.bb k hk).2 S h1)
theorem Stp.quiet {w : World} {p sb : Nat} {s0 : St} {v : Value} {o : OpV} {B : List Nat} {R : List RB} {s : St} {W W' : World} (h : Stp K w p sb s0 v o B R s W) (ho : Oth [] W W') : Stp K w p sb s0 v o B R s W' :=
  h.mv (h.fr.mv ho) (h.fr.quiet ho)
theorem Stp.scells {w : World} {p sb : Nat} {s0 : St} {v : Value} {o : OpV} {B : List Nat} {R : List RB} {s : St} {W : World} (h : Stp K w p sb s0 v o B R s W) :
    W.cell? ⟨sb, 0, none⟩ = some (.int .i64 s0.cap) ∧ W.cell? ⟨sb, 1, none⟩ = some (.int .i64 s0.next) ∧ W.cell? ⟨sb, 2, none⟩ = some (.int .i64 s0.high) ∧ W.cell? ⟨sb, 3, none⟩ = some (.int .i64 s0.peak) ∧ W.cell? ⟨sb, 4, none⟩ = some (.int .i64 s0.moves) ∧ W.cell? ⟨sb, 5, none⟩ = some v := h.sa.c
theorem Stp.ocells {w : World} {p sb : Nat} {s0 : St} {v : Value} {o : OpV} {B : List Nat} {R : List RB} {s : St} {W : World} (h : Stp K w p sb s0 v o B R s W) :
    W.cell? ⟨sb + 1, 0, none⟩ = some (.int .i64 o.k) ∧ W.cell? ⟨sb + 1, 1, none⟩ = some (.int .i64 o.n) ∧ W.cell? ⟨sb + 1, 2, none⟩ = some (.slice o.b o.m o.c) := by
  have := h.oa
  unfold opc at this
  refine ⟨?_, ?_, ?_⟩ <;> (simp only [World.cell?, this]; rfl)
theorem SZ.c {rb : Nat} {W : World} (h : SZ rb W) : (W.cell? ⟨rb, 0, none⟩ = some (.int .i64 0) ∧ W.cell? ⟨rb, 1, none⟩ = some (.int .i64 0) ∧ W.cell? ⟨rb, 2, none⟩ = some (.int .i64 0) ∧ W.cell? ⟨rb, 3, none⟩ = some (.int .i64 0) ∧ W.cell? ⟨rb, 4, none⟩ = some (.int .i64 0) ∧ W.cell? ⟨rb, 5, none⟩ = some (.slice none 0 0)) ∧ ∀ i, W.frozen? ⟨rb, i, none⟩ = false := by
  unfold SZ at h
  refine ⟨⟨?_, ?_, ?_, ?_, ?_, ?_⟩, fun i => by simp [World.frozen?, h]⟩ <;> (simp only [World.cell?, h]; rfl)
/-- The three blocks that step begins with. -/
theorem Both.start {w : World} {p : Nat} {s : St} {v : Value} {W W1 : World} (h : Both K w p s v W) (o : OpV)
    (hW : W1 = ((W.alloc (.cells #[.int .i64 s.cap, .int .i64 s.next, .int .i64 s.high, .int .i64 s.peak, .int .i64 s.moves, v] 55)).alloc (.cells #[.int .i64 o.k, .int .i64 o.n, .slice o.b o.m o.c] 31)).alloc (.cells #[.int .i64 0, .int .i64 0, .int .i64 0, .int .i64 0, .int .i64 0, .slice none 0 0] 55)) :
    ∃ B R, Stp K w p W.heap.size s v o B R s W1 ∧ (blks R).Perm s.L := by
  obtain ⟨B, R, h1, h2, h3⟩ := h.rf
  have ho : Oth [] W W1 := by rw [hW]; exact (((Oth.refl [] W).alloc _).alloc _).alloc _
  have hsz : W1.heap.size = W.heap.size + 3 := by rw [hW]; simp
  refine ⟨B, R, ⟨h.fr.quiet ho, h.fr.oth.size, ?_, h.fr.bes ho (by omega) (by omega), ?_, h.fr.bes ho (by omega) (by omega), ?_, h.fr.bes ho (by omega) (by omega), h1.quiet ho, fun b hb => (h3 b hb).1.oth h.fr ho, fun b hb => (h3 b hb).1.1, fun k ob hk => ⟨(h.kp k ob hk).1.oth h.fr ho, ho.heap (h.kp k ob hk).2 (by simp)⟩, fun k ob hk => (h.kp k ob hk).1.1, fun b hb => (h3 b hb).2⟩, h2⟩
  · unfold SC
    rw [hW, Below.heap_alloc _ _ _ (by simp; omega), Below.heap_alloc _ _ _ (by simp)]; exact heap_alloc_new _ _
  · rw [hW, Below.heap_alloc _ _ _ (by simp)]
    have := heap_alloc_new (W.alloc (.cells #[.int .i64 s.cap, .int .i64 s.next, .int .i64 s.high, .int .i64 s.peak, .int .i64 s.moves, v] 55)) (.cells #[.int .i64 o.k, .int .i64 o.n, .slice o.b o.m o.c] 31)
    rw [World.size_alloc] at this; exact this
  · unfold SZ
    have := heap_alloc_new ((W.alloc (.cells #[.int .i64 s.cap, .int .i64 s.next, .int .i64 s.high, .int .i64 s.peak, .int .i64 s.moves, v] 55)).alloc (.cells #[.int .i64 o.k, .int .i64 o.n, .slice o.b o.m o.c] 31)) (.cells #[.int .i64 0, .int .i64 0, .int .i64 0, .int .i64 0, .int .i64 0, .slice none 0 0] 55)
    rw [World.size_alloc, World.size_alloc] at this; rw [hW]; exact this
/-- The result is written. -/
theorem both_of {w : World} {p : Nat} {s' : St} {v' : Value} {B' : List Nat} {R' : List RB} {W WF : World} {rb : Nat} (hf : Fresh w p s' W) (hR : RdR B' v' R' W) (hp : (blks R').Perm s'.L) (hB : ∀ b, b ∈ B' → Bes p s' W b) (hBk : ∀ b, b ∈ B' → ∀ ob, ¬ K b ob) (hr : Bes p s' W rb) (hn : w.heap.size ≤ rb) (hl : rb ∉ B') (hkp : ∀ k ob, K k ob → (Bes p s' W k ∧ W.heap[k]? = some ob) ∧ k ≠ rb) (ho : Oth [rb] W WF) : Both K w p s' v' WF := by
  have h1 := hf.other ho (fun k hk => by simp at hk; subst hk; exact ⟨hn, fun _ => hr⟩)
  exact ⟨h1.1, fun k ob h => ⟨h1.2.1 k (hkp k ob h).1.1, ho.heap (hkp k ob h).1.2 (by simpa using (hkp k ob h).2)⟩, B', R', hR.oth ho (fun k hkB => by simp; intro e; subst e; exact hl hkB), hp, fun b hb => ⟨h1.2.1 b (hB b hb), hBk b hb⟩⟩
/-- What step hands back. -/
def Stepped (K : Nat → Obj → Prop) (w : World) (p : Nat) (s : St) (e : Ending) (w' : World) : Prop :=
  ∃ s' v', e = .returned (.tuple #[sval s' v', .bool true]) ∧ Both K w p s' v' w' ∧ s'.next ≤ s.next + 1 ∧ s'.cap = s.cap
/-- step hands the state back as it was. -/
theorem Stp.same {w : World} {p sb : Nat} {s : St} {v : Value} {o : OpV} {B : List Nat} {R : List RB} {W WF : World} (h : Stp K w p sb s v o B R s W) (hp : (blks R).Perm s.L) (ho : Oth [sb + 2] W WF) : Stepped K w p s (.returned (.tuple #[sval s v, .bool true])) WF :=
  ⟨s, v, rfl, both_of h.fr h.rd hp h.bb h.bk h.br (by have := h.new; omega) (fun hm => by have := h.lt _ hm; omega) (fun k ob hk => ⟨h.kp k ob hk, by have := h.kl k ob hk; omega⟩) ho, by omega, rfl⟩
theorem ret24 {t0 t1 t2 t3 t4 t5 tb : Value} {ts : List Value} {X : World} {r : Nat} {b0 b1 b2 b3 b4 b5 : Value} (h : X.heap[r]? = some (.cells #[b0, b1, b2, b3, b4, b5] 55 (0, 0))) : (results Try.f24 (List.toArray (t0 :: t1 :: t2 :: t3 :: t4 :: t5 :: .pointer (some ⟨r, 0, none⟩) :: tb :: ts))).run Try.prog X = .ok (.tuple #[.agg #[b0, b1, b2, b3, b4, b5], tb]) X := by
  simp [results, Try.f24, go_sem, World.cell?, h]
theorem RdR.below {B : List Nat} {v : Value} {R : List RB} {W : World} (h : RdR B v R W) (hd : ∀ x, x ∈ R → 1 ≤ x.b.d.length) : RdR (B.filter (fun k => decide (k < W.heap.size))) v R W := by
  obtain ⟨⟨base, cap, rfl, h0, h1⟩, h2⟩ := h
  refine ⟨⟨base, cap, rfl, h0, fun j u hu => ?_⟩, fun x hx => ?_⟩
  · obtain ⟨g, off, hb, hg, hc⟩ := h1 j u hu
    exact ⟨g, off, hb, List.mem_filter.2 ⟨hg, decide_eq_true (World.block_lt_of_cell? W _ hc)⟩, hc⟩
  · obtain ⟨h3, h4⟩ := h2 x hx
    refine ⟨h3, fun ad had => ?_⟩
    obtain ⟨v0, hv0⟩ : ∃ v, x.b.d[0]? = some v := ⟨_, List.getElem?_eq_getElem (by have := hd x hx; omega)⟩
    obtain ⟨g, off, hb, c⟩ := h3.2.2.2 0 v0 hv0
    have h5 := h4 ad had
    rw [had] at hb; cases hb
    exact List.mem_filter.2 ⟨h5, decide_eq_true (World.block_lt_of_cell? W _ c)⟩
/-- A list in new memory is beside the arena. -/
theorem both_new {w : World} {p : Nat} {s' : St} {W2 W3 : World} {B B' : List Nat} {v' : Value} {R' : List RB} (hf : Fresh w p s' W2) (hB : ∀ b, b ∈ B → Bes p s' W2 b) (ho : Oth [] W2 W3) (hR : RdR B' v' R' W3) (hfr : Fr B W2 B') (hp : (blks R').Perm s'.L) :
    ∃ B'', RdR B'' v' R' W3 ∧ ∀ b, b ∈ B'' → Bes p s' W3 b ∧ (b ∈ B ∨ W2.heap.size ≤ b) := by
  refine ⟨_, hR.below (fun x hx => ?_), fun b hb => ?_⟩
  · have := hf.good.blk x.b (hp.subset (List.mem_map_of_mem hx)); omega
  · obtain ⟨h1, h2⟩ := List.mem_filter.1 hb
    have h2 := of_decide_eq_true h2
    rcases hfr b h1 with h | h
    · exact ⟨(hB b h).oth hf ho, .inl h⟩
    · exact ⟨hf.bes ho h h2, .inr h⟩
/-- Where the reference's block stands in the arena. -/
theorem Stp.hit {w : World} {p sb : Nat} {s0 : St} {v : Value} {o : OpV} {B : List Nat} {R : List RB} {s : St} {W : World} (h : Stp K w p sb s0 v o B R s W) (hp : (blks R).Perm s.L) {j : Nat} {x : RB} (hx : R[j]? = some x) : ∃ j' : Nat, s.L[j']? = some x.b :=
  List.mem_iff_getElem?.1 (hp.subset (List.mem_map_of_mem (List.mem_of_getElem? hx)))
theorem Stp.miss {R : List RB} {s : St} {k : Int} (hp : (blks R).Perm s.L) (hno : ∀ x, x ∈ R → (x.b.h : Int) ≠ k) : ∀ b, b ∈ s.L → (b.h : Int) ≠ k := fun b hb => by
  obtain ⟨x, hx, rfl⟩ := List.mem_map.1 (hp.symm.subset hb)
  exact hno x hx
end Go.Proofs.Ythllilkafdgheaa
