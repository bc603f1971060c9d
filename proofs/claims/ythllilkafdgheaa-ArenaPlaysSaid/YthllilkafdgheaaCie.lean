/- What the reference's Put leaves: plain facts. No condition. -/
import Derived.Test.YthllilkafdgheaaCia
namespace Go.Proofs.Ythllilkafdgheaa
open Go.RowKit
set_option linter.unusedVariables false
set_option linter.unusedSimpArgs false

theorem Fresh.putW {w : World} {p : Nat} {s : St} {w1 : World} (h : Fresh w p s w1) {j : Nat} {x : Blk} (hx : s.L[j]? = some x) (b : Option Addr) (m c : Nat) (ds : List Int) (hm : m = x.n) (hr : ReadsI b m ds w) :
    Calls Try.prog 14 #[.pointer (some ⟨p, 0, none⟩), .int .i64 x.h, .slice b m c] w1 fun e w' => e = .returned (.int .i64 0) ∧ Hid (Fresh w p (wrote s j x ds) w' ∧ Mv p s w1 (wrote s j x ds) w') := by
  have hxb := h.good.blk x (List.mem_of_getElem? hx)
  obtain ⟨v0, hv0⟩ : ∃ v, ds[0]? = some v := ⟨_, List.getElem?_eq_getElem (by have := hr.1; omega)⟩
  obtain ⟨g, off, rfl, c0⟩ := hr.2.2.2 0 v0 hv0
  refine (h.putM hx ⟨g, off, none⟩ m c ds hm hr.1.symm (fun i v hv => ?_) (h.old (World.block_lt_of_cell? w _ c0))).mono ?_
  · obtain ⟨g', off', he, c1⟩ := hr.2.2.2 i v hv
    cases he
    rw [Addr.add_lit]
    exact h.oth.cell c1 (by simp)
  · rintro e w' ⟨rfl, hf, hmv⟩
    exact ⟨rfl, hf, hmv⟩
/-- The block of the reference with other cells. -/
def RB.put (x : RB) (ds : List Int) (b : Option Addr) (c : Nat) : RB := ⟨{ x.b with d := ds }, b, c⟩
theorem rcs_put : ∀ {R : List RB} {j : Nat} {x : RB} (ds : List Int) (b : Option Addr) (c : Nat), R[j]? = some x → rcs (R.set j (x.put ds b c)) = (rcs R).set (j * 4 + 3) (.slice b ds.length c)
  | y :: r, 0, x, ds, b, c, h => by simp at h; subst h; simp [rcs, RB.put]
  | y :: r, j + 1, x, ds, b, c, h => by
    have := rcs_put ds b c (R := r) (j := j) (x := x) (by simpa using h)
    rw [show (j + 1) * 4 + 3 = (j * 4 + 3) + 4 by omega]
    simp [rcs, this]
theorem put_perm {R : List RB} {s : St} (hp : (blks R).Perm s.L) {j j' : Nat} {x : RB} (hx : R[j]? = some x) (hx' : s.L[j']? = some x.b) (ds : List Int) (b : Option Addr) (c : Nat) : (blks (R.set j (x.put ds b c))).Perm (wrote s j' x.b ds).L := by
  have := perm_set (y' := { x.b with d := ds }) hp (blks_get hx) hx'
  simpa [blks, wrote, RB.put, List.map_set] using this
/-- The reference's state behind Put. -/
theorem put_fin {K : Nat → Obj → Prop} {w : World} {p sb : Nat} {s0 s' : St} {v : Value} {o : OpV} {B : List Nat} {R : List RB} {w2 W7 WF : World} {j om c4 c5 n g4 : Nat} {b5 : Option Addr} {x : RB}
    (h : Stp K w p sb s0 v o B R s' w2) (hx : R[j]? = some x) (hn : n = R.length) (ho : Oth [sb] w2 W7) (hds : o.ds.length = om)
    (hown : W7.ownsRow w2.heap.size 77 4 (.slice (some ⟨g4, 0, none⟩) n c4) n ((rcs R).set (j * 4 + 3) (.slice b5 om c5)))
    (hr5 : ReadsI b5 om o.ds W7) (hb5 : ∀ ad, b5 = some ad → w2.heap.size ≤ ad.block) (hg4 : w2.heap.size ≤ g4)
    (hp : (blks (R.set j (x.put o.ds b5 c5))).Perm s'.L) (hF : Oth [sb + 2] W7 WF) : Both K w p s' (.slice (some ⟨g4, 0, none⟩) n c4) WF := by
  obtain ⟨hf7, hB7, hN7⟩ := h.fr.other ho (fun k hk => by simp at hk; subst hk; exact ⟨h.new, fun _ => h.bs⟩)
  have hlt : ∀ ad, b5 = some ad → 0 < om → ad.block < W7.heap.size := fun ad had h0 => by
    obtain ⟨v0, hv0⟩ : ∃ v, o.ds[0]? = some v := ⟨_, List.getElem?_eq_getElem (by omega)⟩
    obtain ⟨g, off, he, c0⟩ := hr5.2.2.2 0 v0 hv0
    rw [had] at he; cases he
    exact World.block_lt_of_cell? W7 _ c0
  rw [← hds, ← rcs_put o.ds b5 c5 hx] at hown
  have hRC : ∀ y, y ∈ R.set j (x.put o.ds b5 c5) → RdC ((b5.map Addr.block).toList ++ B) y W7 := by
    intro y hy
    rcases List.mem_or_eq_of_mem_set hy with hy | rfl
    · exact ((h.rd.2 y hy).oth ho (fun k hk => by simp; rintro rfl; have := h.lt _ hk; omega)).sub (by simp; intro k hk; exact .inr hk)
    · refine ⟨?_, fun ad had => ?_⟩
      · simp only [RB.put]; rw [hds]; exact hr5
      · have : b5 = some ad := had
        simp [this]
  have hR := rdr_of_owns hown (by simpa using hn) hRC
  have hd : ∀ y, y ∈ R.set j (x.put o.ds b5 c5) → 1 ≤ y.b.d.length := fun y hy => by
    have := hf7.good.blk y.b (hp.subset (List.mem_map_of_mem hy)); omega
  have hR2 := hR.below hd
  have hBk : ∀ b, b ∈ ((Value.slice (some ⟨g4, 0, none⟩) n c4).ownBlock.toList ++ ((b5.map Addr.block).toList ++ B)).filter (fun k => decide (k < W7.heap.size)) → Bes p s' W7 b ∧ (b ∈ B ∨ w2.heap.size ≤ b) := fun b hb => by
    obtain ⟨h1, h2⟩ := List.mem_filter.1 hb
    have h2 := of_decide_eq_true h2
    rcases List.mem_append.1 h1 with h1 | h1
    · simp [Value.ownBlock] at h1; subst h1
      exact ⟨hN7 _ hg4 h2, .inr hg4⟩
    · rcases List.mem_append.1 h1 with h1 | h1
      · cases hb5' : b5 with
        | none => rw [hb5'] at h1; simp at h1
        | some ad =>
          rw [hb5'] at h1; simp at h1; subst h1
          exact ⟨hN7 _ (hb5 ad hb5') h2, .inr (hb5 ad hb5')⟩
      · exact ⟨hB7 _ (h.bb b h1), .inl h1⟩
  refine both_of hf7 hR2 hp (fun b hb => (hBk b hb).1) (fun b hb ob hk => ?_) (hB7 _ h.br) (by have := h.new; omega) (fun hm => ?_) (fun k ob hk => ⟨⟨hB7 _ (h.kp k ob hk).1, ho.heap (h.kp k ob hk).2 (by have := h.kl k ob hk; simp; omega)⟩, by have := h.kl k ob hk; omega⟩) hF
  · rcases (hBk _ hb).2 with h1 | h1
    · exact h.bk b h1 ob hk
    · have := h.kl b ob hk; have := h.br.1; omega
  · rcases (hBk _ hm).2 with h1 | h1
    · have := h.lt _ h1; omega
    · have := h.br.1; omega
end Go.Proofs.Ythllilkafdgheaa
