/- The walks of the reference's place, Without and Sorted. Condition: the list reads as blocks. -/
import Derived.Test.YthllilkafdgheaaCa
namespace Go.Proofs.Ythllilkafdgheaa
open Go.RowKit
set_option linter.unusedVariables false
set_option linter.unusedSimpArgs false

/-- What place returns. -/
def PlaceRes (M : List Blk) (cap words : Nat) (e : Ending) : Prop :=
  (∃ fr : Nat, e = .returned (.int .i64 fr) ∧ FreeAt M cap fr words ∧ ∀ f', f' < fr → ¬ FreeAt M cap f' words) ∨ (e = .returned (.int .i64 (-1)) ∧ ∀ f', ¬ FreeAt M cap f' words)

set_option maxHeartbeats 4000000 in
set_option maxRecDepth 100000 in
theorem place_ref (B : List Nat) (s : St) (words : Nat) (base : Option Addr) (n cap : Nat) (R : List RB) (w : World) (hR : RdR B (.slice base n cap) R w) (hn : n = R.length) (h1 : n ≤ 1000) (hb : ∀ x, x ∈ R → x.b.f ≤ 16777216 ∧ x.b.n ≤ 16777216) (h2 : s.cap ≤ 16777216) (h3 : 1 ≤ words) (h4 : words ≤ s.cap) :
    Calls Try.prog 44 #[sval s (.slice base n cap), .int .i64 words] w fun e w' => PlaceRes (blks R) s.cap words e ∧ Oth [] w w' := by
  have HF := Lib.hid (fun fr W (hf : fr ≤ 16777216) (ho : Oth [] w W) => free_ref B s fr words base n cap R W (hR.quiet ho) hn h1 hb hf (by omega))
  unfold sval
  unfold sval at HF
  clear hR hn hb
  go_enter Try.func44, Try.ntmps44
  go_wp2_with fail
  obtain ⟨W0, hW0⟩ : ∃ W0, W0 = w.alloc (.cells #[.int .i64 s.cap, .int .i64 s.next, .int .i64 s.high, .int .i64 s.peak, .int .i64 s.moves, .slice base n cap] 55) := ⟨_, rfl⟩
  have ho0 : Oth [] w W0 := by rw [hW0]; exact (Oth.refl _ _).alloc _
  have hs0 : W0.heap[w.heap.size]? = some (.cells #[.int .i64 s.cap, .int .i64 s.next, .int .i64 s.high, .int .i64 s.peak, .int .i64 s.moves, .slice base n cap] 55 (0, 0)) := by rw [hW0]; exact heap_alloc_new _ _
  obtain ⟨sb, hsb⟩ : ∃ sb, sb = w.heap.size := ⟨_, rfl⟩
  rw [← hW0, ← hsb]
  rw [← hsb] at hs0
  have c : ∀ (i : Nat) (v : Value), #[Value.int .i64 s.cap, .int .i64 s.next, .int .i64 s.high, .int .i64 s.peak, .int .i64 s.moves, .slice base n cap][i]? = some v → W0.cell? ⟨sb, i, none⟩ = some v := fun i v h => by simp only [World.cell?, hs0]; exact h
  have c0 := c 0 _ rfl
  have c1 := c 1 _ rfl
  have c2 := c 2 _ rfl
  have c3 := c 3 _ rfl
  have c4 := c 4 _ rfl
  have c5 := c 5 _ rfl
  obtain ⟨sc, hsc⟩ : ∃ a, a = s.cap := ⟨_, rfl⟩
  obtain ⟨sn, hsn⟩ : ∃ a, a = s.next := ⟨_, rfl⟩
  obtain ⟨sh, hsh⟩ : ∃ a, a = s.high := ⟨_, rfl⟩
  obtain ⟨sp, hsp⟩ : ∃ a, a = s.peak := ⟨_, rfl⟩
  obtain ⟨sm, hsm⟩ : ∃ a, a = s.moves := ⟨_, rfl⟩
  rw [← hsc, ← hsn, ← hsh, ← hsp, ← hsm] at HF
  rw [← hsc] at c0 h2 h4 ⊢
  rw [← hsn] at c1 ⊢
  rw [← hsh] at c2 ⊢
  rw [← hsp] at c3 ⊢
  rw [← hsm] at c4 ⊢
  have HSC := Lib.hid hsc
  clear hW0 hsb hs0 c hsc hsn hsh hsp hsm
  go_loopw [5] (fun x wr => ∃ i : Nat, i ≤ sc ∧ x = .int .i64 i ∧ Oth [] W0 wr ∧ Hid (∀ f', f' < i → ¬ FreeAt (blks R) sc f' words)) (fun x _ => (sc + 1 - intOf x).toNat)
  case atStart => exact ⟨0, by omega, rfl, Oth.refl _ _, fun f' h => by omega⟩
  case round =>
    obtain ⟨i, hi, rfl, ho, hno⟩ := hrel
    have e0 := ho.cell c0 (by simp)
    have e1 := ho.cell c1 (by simp)
    have e2 := ho.cell c2 (by simp)
    have e3 := ho.cell c3 (by simp)
    have e4 := ho.cell c4 (by simp)
    have e5 := ho.cell c5 (by simp)
    have t0 : IntKind.i64.wrap ((i : Int) + (words : Int)) = (i : Int) + (words : Int) := by rw [IntKind.wrap_i64]; omega
    by_cases hlt : i + words ≤ sc
    · have t1 : (i : Int) + (words : Int) ≤ (sc : Int) := by omega
      have HC := Lib.hid (HF.out i wr (by omega) (ho0.trans ho (Fr.nil _ _)))
      go_wp2_with fail
      refine HC.out.mono ?_
      rintro e w1 ⟨⟨b, rfl, hb⟩, ho1⟩
      have HB := Lib.hid hb
      clear hb
      cases b with
      | true =>
        have HP : Hid (FreeAt (blks R) sc i words) := HB.out.1 rfl
        clear HB
        go_wp2
        go_ret
        exact ⟨.inl ⟨i, rfl, by rw [← HSC.out]; exact HP.out, by rw [← HSC.out]; exact hno.out⟩, (ho0.trans ho (Fr.nil _ _)).trans ho1 (Fr.nil _ _)⟩
      | false =>
        have HA : Hid (∀ f', f' < i + 1 → ¬ FreeAt (blks R) sc f' words) := fun f' hf hfree => by
          rcases Nat.lt_or_ge f' i with h | h
          · exact hno.out f' h hfree
          · obtain rfl : f' = i := by omega
            have := HB.out.2 hfree
            cases this
        clear HB
        go_wp2_with fail
        go_roundw
        case rel => exact ⟨i + 1, by omega, by go_num, ho.trans ho1 (Fr.nil _ _), HA⟩
        case measure => simp [intOf]; omega
    · have t1 : ¬ (i : Int) + (words : Int) ≤ (sc : Int) := by omega
      go_wp2
      go_ret
      refine ⟨.inr ⟨rfl, fun f' hf => ?_⟩, ho0.trans ho (Fr.nil _ _)⟩
      rw [← HSC.out] at hf
      rcases Nat.lt_or_ge f' i with h | h
      · exact hno.out f' h hf
      · have := hf.2; omega
end Go.Proofs.Ythllilkafdgheaa
