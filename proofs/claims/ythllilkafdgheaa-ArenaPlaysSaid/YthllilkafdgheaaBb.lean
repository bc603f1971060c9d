/- Blocks given one after the other lie packed; one that is freed and given again lies where it lay. A slice of ints as it reads. No condition. -/
import Derived.Test.YthllilkafdgheaaAxa
import Derived.WalkKit
import Derived.ProofKit
import Derived.OpenShut
import Derived.ChangeOld
namespace Go.Proofs.Ythllilkafdgheaa
open Go.RowKit Go.ChangeShapes Go.WideShapes Go.ChangeAt
set_option linter.unusedVariables false
set_option linter.unusedSimpArgs false

/-- Blocks packed in the order of their handles. -/
structure Pck (s : St) : Prop where
  cnt : s.next = s.L.length
  hnd : ∀ (j : Nat) (x : Blk), s.L[j]? = some x → x.h = j + 1 ∧ x.f = E s.L j
  mv : s.moves = 0
theorem E_succ {L : List Blk} {j : Nat} {x : Blk} (h : L[j]? = some x) : E L (j + 1) = x.f + x.n := by simp only [E, h]
theorem E_congr {L M : List Blk} {j : Nat} (h : ∀ i, i < j → L[i]? = M[i]?) : E L j = E M j := by
  cases j with
  | zero => rfl
  | succ m => simp only [E]; rw [h m (by omega)]
theorem Pck.E {s : St} (h : Pck s) : ∀ j, j ≤ s.L.length → E s.L j = sumN (s.L.take j)
  | 0, _ => by simp [Ythllilkafdgheaa.E, sumN]
  | j + 1, hj => by
    obtain ⟨x, hx⟩ : ∃ x, s.L[j]? = some x := ⟨_, List.getElem?_eq_getElem (by omega)⟩
    rw [E_succ hx, (h.hnd j x hx).2, h.E j (by omega), sumN_take_succ hx]
theorem Pck.all {s : St} (h : Pck s) : Ythllilkafdgheaa.E s.L s.L.length = sumN s.L := by
  rw [h.E _ (Nat.le_refl _), List.take_length]
theorem pck0 (cap : Nat) : Pck (st0 cap) := ⟨rfl, fun j x hx => by simp [st0] at hx, rfl⟩
theorem Pck.given {s s' : St} {words : Nat} (h : Pck s) (hg : Good s) (hgv : Given s words s') (h1 : 1 ≤ words) (h2 : s.live + words ≤ s.cap) : Pck s' ∧ s'.next = s.next + 1 ∧ s'.cap = s.cap := by
  obtain ⟨i, pk, ⟨rfl, k1, k2, k3, k4⟩ | ⟨rfl, k2, k3⟩⟩ := hgv.where hg h1
  · have hi : i = s.L.length := by
      rcases Nat.lt_or_ge i s.L.length with hl | hl
      · obtain ⟨x, hx⟩ : ∃ x, s.L[i]? = some x := ⟨_, List.getElem?_eq_getElem hl⟩
        have := k3 x hx
        have := (h.hnd i x hx).2
        omega
      · omega
    subst hi
    refine ⟨⟨?_, fun j x hx => ?_, h.mv⟩, rfl, rfl⟩
    · simp [placed, h.cnt]
    · simp only [placed, List.take_length, List.drop_length] at hx ⊢
      rcases Nat.lt_or_ge j s.L.length with hj | hj
      · rw [List.getElem?_append_left hj] at hx
        have := h.hnd j x hx
        rw [E_congr (M := s.L) (fun i hi => List.getElem?_append_left (by omega))]
        exact this
      · rw [List.getElem?_append_right hj] at hx
        have hj0 : j - s.L.length = 0 := by
          have := (List.getElem?_eq_some_iff.1 hx).1
          simp at this; omega
        rw [hj0] at hx
        simp at hx
        subst hx
        obtain rfl : j = s.L.length := by omega
        refine ⟨by simp [h.cnt], ?_⟩
        exact (E_congr (fun i hi => List.getElem?_append_left (by omega))).symm
  · rw [h.all, ← hg.live] at k3; omega

theorem again {s s' : St} {k : Nat} {x : Blk} (h : Pck s) (hg : Good s) (hx : s.L[k]? = some x) (hgv : Given (freed s k x) x.n s') :
    s'.moves = 0 ∧ ∃ y, s'.L[k]? = some y ∧ y.h = s.next + 1 ∧ y.f = x.f ∧ y.n = x.n := by
  have hxb := hg.blk x (List.mem_of_getElem? hx)
  have hkl := (List.getElem?_eq_some_iff.1 hx).1
  have hkt : (s.L.take k).length = k := by simp; omega
  have hM1 : ∀ i, i < k → (freed s k x).L[i]? = s.L[i]? := fun i hi => by
    simp only [freed]
    rw [List.getElem?_append_left (by omega), List.getElem?_take, if_pos hi]
  have hM2 : ∀ i, k ≤ i → (freed s k x).L[i]? = s.L[i + 1]? := fun i hi => by
    simp only [freed]
    rw [List.getElem?_append_right (by omega), List.getElem?_drop, hkt]
    congr 1; omega
  have hE : ∀ i, i ≤ k → E (freed s k x).L i = E s.L i := fun i hi => E_congr (fun j hj => hM1 j (by omega))
  have hEk : E s.L k = x.f := (h.hnd k x hx).2.symm
  have hml : (freed s k x).L.length = s.L.length - 1 := by simp [freed]; omega
  have hstep : ∀ y, (freed s k x).L[k]? = some y → ¬ y.f < E (freed s k x).L k + x.n := fun y hy => by
    rw [hM2 k (Nat.le_refl _)] at hy
    rw [hE k (Nat.le_refl _), hEk, (h.hnd _ y hy).2, E_succ hx]
    omega
  obtain ⟨i, pk, ⟨rfl, k1, k2, k3, k4⟩ | ⟨rfl, k2, k3⟩⟩ := hgv.where (freed_good hg hx) hxb.1
  · have hik : i = k := by
      rcases Nat.lt_trichotomy i k with h1 | h1 | h1
      · obtain ⟨y, hy⟩ : ∃ y, s.L[i]? = some y := ⟨_, List.getElem?_eq_getElem (by omega)⟩
        have := k3 y (by rw [hM1 i h1]; exact hy)
        rw [hE i (by omega), ← (h.hnd i y hy).2] at this
        omega
      · exact h1
      · obtain ⟨y, hy⟩ : ∃ y, (freed s k x).L[k]? = some y := ⟨_, List.getElem?_eq_getElem (by omega)⟩
        exact absurd (k2 k y h1 hy) (hstep y hy)
    subst hik
    refine ⟨h.mv, ⟨s.next + 1, E (freed s i x).L i, x.n, List.replicate x.n 0⟩, ?_, rfl, ?_, rfl⟩
    · simp only [placed]
      rw [List.getElem?_append_right (by simp; omega)]
      rw [show i - ((freed s i x).L.take i).length = 0 by simp; omega]
      rfl
    · simp only; rw [hE i (Nat.le_refl _), hEk]
  · exfalso
    rcases Nat.lt_or_ge k (freed s k x).L.length with h1 | h1
    · obtain ⟨y, hy⟩ : ∃ y, (freed s k x).L[k]? = some y := ⟨_, List.getElem?_eq_getElem h1⟩
      exact hstep y hy (k2 k y hy)
    · have : (freed s k x).L.length = k := by omega
      rw [this, hE k (Nat.le_refl _), hEk] at k3
      have := hg.high
      simp only [freed] at k3
      omega

/-- The argument: a slice that reads as these ints. -/
def ReadsI (base : Option Addr) (n : Nat) (l : List Int) (w : World) : Prop := n = l.length ∧ n ≤ maxLen ∧ (∀ k, k ∈ l → (Lit.int .i64 k).wf = true) ∧ ∀ i k, l[i]? = some k → ∃ g off, base = some ⟨g, off, none⟩ ∧ w.cell? ⟨g, off + i, none⟩ = some (.int .i64 k)
theorem ReadsI.oth {base : Option Addr} {n : Nat} {l : List Int} {w w' : World} (h : ReadsI base n l w) (ho : Oth [] w w') : ReadsI base n l w' := by
  obtain ⟨h1, h2, h3, h4⟩ := h
  refine ⟨h1, h2, h3, fun i k hi => ?_⟩
  obtain ⟨g, off, hb, c⟩ := h4 i k hi
  exact ⟨g, off, hb, ho.cell c (by simp)⟩

theorem Try.cells3 : Try.prog.cellsOf 3 = 1 := by kernel_rfl
theorem Try.cells59 : Try.prog.cellsOf 59 = 1 := by kernel_rfl

theorem reads_row {H : Type} {enc : TypeId × Value → H} {W : World} {t e : TypeId} {a0 : Option Addr} {len cap : Nat} {d : DataW H} {p : List MemPlace}
    (hu : Try.prog.underlying t = some (.slice e)) (he : Try.prog.underlying e = some (.int .i64)) (hc : Try.prog.cellsOf e = 1)
    (h : DataW.Trod enc Try.prog W 0 (fun _ => true) true t (.slice a0 len cap) d p) : ∃ L, ReadsI a0 len L W := by
  obtain ⟨fuel, hf⟩ := h
  rcases open_ints hu he hc hf with ⟨hcs, _⟩ | ⟨a, len', cap', zs, hcs, _, hl, hm, hz, _, hcell, hwz⟩
  · simp [Value.cells] at hcs
    obtain ⟨rfl, rfl, rfl⟩ := hcs
    exact ⟨[], rfl, Nat.zero_le _, (fun k hk => absurd hk (by simp)), (fun i k hk => absurd hk (by simp))⟩
  · simp [Value.cells] at hcs
    obtain ⟨rfl, rfl, rfl⟩ := hcs
    simp only [if_true] at hz
    have hlen : (zs.take len).length = len := by rw [List.length_take, hz]; omega
    refine ⟨zs.take len, hlen.symm, by omega, fun k hk => ?_, fun i x hi => ?_⟩
    · exact hwz k (List.mem_of_mem_take hk)
    have hil : i < len := by
      have := (List.getElem?_eq_some_iff.1 hi).1
      omega
    obtain ⟨g, off, spot⟩ := a
    have c0 := hcell 0 (by omega)
    have hsp : spot = none := by
      cases spot with
      | none => rfl
      | some x =>
        simp only [Addr.add, if_true, World.cell?] at c0
        split at c0 <;> simp at c0
    subst hsp
    refine ⟨g, off, rfl, ?_⟩
    have := hcell i (by omega)
    rw [Addr.add_lit] at this
    rw [this]
    rw [List.getElem?_take, if_pos hil] at hi
    rw [List.getD_eq_getElem?_getD, hi]; rfl
theorem reads_ints {H : Type} {enc : TypeId × Value → H} {W : World} {a0 : Option Addr} {len cap : Nat} {d : DataW H} {p : List MemPlace}
    (h : DataW.Trod enc Try.prog W 0 (fun _ => true) true 43 (.slice a0 len cap) d p) : ∃ L, ReadsI a0 len L W := reads_row Try.underlying43 Try.underlying3 Try.cells3 h
theorem reads_fix {H : Type} {enc : TypeId × Value → H} {W : World} {a0 : Option Addr} {len cap : Nat} {d : DataW H} {p : List MemPlace}
    (h : DataW.Trod enc Try.prog W 0 (fun _ => true) true 23 (.slice a0 len cap) d p) : ∃ L, ReadsI a0 len L W := reads_row Try.underlying23 Try.underlying59 Try.cells59 h
end Go.Proofs.Ythllilkafdgheaa
