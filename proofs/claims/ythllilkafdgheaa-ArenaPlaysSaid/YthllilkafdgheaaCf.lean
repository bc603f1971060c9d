/- The walk of the reference's Give where it refuses. Condition: the list reads as the arena's blocks. -/
import Derived.Test.YthllilkafdgheaaCe
namespace Go.Proofs.Ythllilkafdgheaa
open Go.RowKit
set_option linter.unusedVariables false
set_option linter.unusedSimpArgs false

theorem ret36 {t0 t1 t2 t3 t5 : Value} {ts : List Value} {X : World} {r : Nat} {b0 b1 b2 b3 b4 b5 : Value} (h : X.heap[r]? = some (.cells #[b0, b1, b2, b3, b4, b5] 55 (0, 0))) : (results Try.f36 (List.toArray (t0 :: t1 :: t2 :: t3 :: .pointer (some ⟨r, 0, none⟩) :: t5 :: ts))).run Try.prog X = .ok (.tuple #[.agg #[b0, b1, b2, b3, b4, b5], t5]) X := by
  simp [results, Try.f36, go_sem, World.cell?, h]

/-- The two blocks that a function of a state has: the state's, and the result's. -/
theorem two {w W : World} {t : TypeId} {a b : Array Value} (hW : W = (w.alloc (.cells a t)).alloc (.cells b t)) : Oth [] w W ∧ W.heap[w.heap.size]? = some (.cells a t (0, 0)) ∧ W.heap[w.heap.size + 1]? = some (.cells b t (0, 0)) ∧ W.heap.size = w.heap.size + 2 := by
  subst hW
  refine ⟨((Oth.refl [] w).alloc _).alloc _, ?_, ?_, by simp⟩
  · rw [Below.heap_alloc _ _ _ (by simp)]; exact heap_alloc_new _ _
  · have := heap_alloc_new (w.alloc (.cells a t)) (.cells b t)
    rw [World.size_alloc] at this; exact this

set_option maxHeartbeats 4000000 in
set_option maxRecDepth 100000 in
theorem GiveR_range (s : St) (words : Int) (base : Option Addr) (n cap : Nat) (w : World) (hw : words < 1 ∨ 65536 < words) :
    Calls Try.prog 36 #[sval s (.slice base n cap), .int .i64 words] w fun e w' => e = .returned (.tuple #[sval s (.slice base n cap), .int .i64 11]) ∧ Oth [] w w' := by
  unfold sval
  have key : words < 1 ∨ (¬ words < 1 ∧ 65536 < words) := by omega
  clear hw
  rcases key with h | ⟨h, h'⟩
  all_goals
    go_enter Try.func36, Try.ntmps36
    go_wp2
    obtain ⟨o1, h1, h2, h3⟩ := two (w := w) (t := 55) (a := #[.int .i64 s.cap, .int .i64 s.next, .int .i64 s.high, .int .i64 s.peak, .int .i64 s.moves, .slice base n cap]) (b := #[.int .i64 s.cap, .int .i64 s.next, .int .i64 s.high, .int .i64 s.peak, .int .i64 s.moves, .slice base n cap]) rfl
    exact bodyPost_ret (ret36 h2) rfl ⟨rfl, o1⟩

set_option maxHeartbeats 4000000 in
set_option maxRecDepth 100000 in
theorem GiveR_full (B : List Nat) (s : St) (words : Nat) (base : Option Addr) (n cap : Nat) (R : List RB) (w : World) (hR : RdR B (.slice base n cap) R w) (hp : (blks R).Perm s.L) (hg : Good s) (h1 : 1 ≤ words) (h2 : words ≤ 65536) (h3 : s.cap < s.live + words) :
    Calls Try.prog 36 #[sval s (.slice base n cap), .int .i64 words] w fun e w' => e = .returned (.tuple #[sval s (.slice base n cap), .int .i64 15]) ∧ Oth [] w w' := by
  have hlen : n ≤ 1000 := by
    have h4 := hp.length_eq
    rw [blks_length] at h4
    have := hR.parts.1
    have := hg.cnt
    omega
  have hsum : sumN (blks R) = s.live := by
    rw [hg.live]; unfold sumN; exact (hp.map _).sum_nat
  have hbn : ∀ x, x ∈ R → x.b.n ≤ 16777216 := fun x hx => by
    have h4 := hg.blk x.b (hp.subset (List.mem_map_of_mem hx))
    have := hg.high
    have := hg.cap
    omega
  have HL := Lib.hid (fun W (ho : Oth [] w W) => Live_ref B s base n cap R W (hR.quiet ho) hR.parts.1 hlen hbn)
  have hpk := hg.peak
  have hcp := hg.cap
  rw [hsum] at HL
  unfold sval at HL
  unfold sval
  obtain ⟨sl, hsl⟩ : ∃ a, a = s.live := ⟨_, rfl⟩
  rw [← hsl] at HL h3 hpk
  obtain ⟨sc, hsc⟩ : ∃ a, a = s.cap := ⟨_, rfl⟩
  rw [← hsc] at HL h3 hpk hcp ⊢
  have t1 : ¬ (words : Int) < 1 := by omega
  have t2 : ¬ (65536 : Int) < (words : Int) := by omega
  have t3 : (sc : Int) < (sl : Int) + (words : Int) := by omega
  have t4 : IntKind.i64.wrap ((sl : Int) + (words : Int)) = (sl : Int) + (words : Int) := by rw [IntKind.wrap_i64]; omega
  clear hR hp hg hsum hbn hsl hsc hpk
  go_enter Try.func36, Try.ntmps36
  go_wp2_with fail
  obtain ⟨W1, hW1⟩ : ∃ W1, W1 = (w.alloc (.cells #[.int .i64 sc, .int .i64 s.next, .int .i64 s.high, .int .i64 s.peak, .int .i64 s.moves, .slice base n cap] 55)).alloc (.cells #[.int .i64 0, .int .i64 0, .int .i64 0, .int .i64 0, .int .i64 0, .slice none 0 0] 55) := ⟨_, rfl⟩
  obtain ⟨o1, k1, k2, k3⟩ := two hW1
  rw [← hW1]
  obtain ⟨sb, hsb⟩ : ∃ sb, sb = w.heap.size := ⟨_, rfl⟩
  rw [← hsb] at k1 k2 k3 ⊢
  have CE : ∀ W, Oth [] W1 W → ∀ (i : Nat) (v : Value), #[Value.int .i64 sc, .int .i64 s.next, .int .i64 s.high, .int .i64 s.peak, .int .i64 s.moves, .slice base n cap][i]? = some v → W.cell? ⟨sb, i, none⟩ = some v := fun W hW i v h => by
    have := hW.heap k1 (by simp)
    simp only [World.cell?, this]; exact h
  have HLC : Hid (∀ W, Oth [] W1 W → Calls Try.prog 38 #[.agg #[.int .i64 sc, .int .i64 s.next, .int .i64 s.high, .int .i64 s.peak, .int .i64 s.moves, .slice base n cap]] W fun e w' => e = .returned (.int .i64 sl) ∧ w'.cell? ⟨sb, 0, none⟩ = some (.int .i64 sc) ∧ w'.cell? ⟨sb, 1, none⟩ = some (.int .i64 s.next) ∧ w'.cell? ⟨sb, 2, none⟩ = some (.int .i64 s.high) ∧ w'.cell? ⟨sb, 3, none⟩ = some (.int .i64 s.peak) ∧ w'.cell? ⟨sb, 4, none⟩ = some (.int .i64 s.moves) ∧ w'.cell? ⟨sb, 5, none⟩ = some (.slice base n cap) ∧ Hid (Oth [] W1 w')) := by
    intro W hW
    refine (HL.out W (o1.trans hW (Fr.nil _ _))).mono ?_
    rintro e w' ⟨rfl, ho⟩
    have hz := hW.trans ho (Fr.nil _ _)
    exact ⟨rfl, CE _ hz 0 _ rfl, CE _ hz 1 _ rfl, CE _ hz 2 _ rfl, CE _ hz 3 _ rfl, CE _ hz 4 _ rfl, CE _ hz 5 _ rfl, hz⟩
  have s0 := CE W1 (Oth.refl _ _) 0 _ rfl
  have s1 := CE W1 (Oth.refl _ _) 1 _ rfl
  have s2 := CE W1 (Oth.refl _ _) 2 _ rfl
  have s3 := CE W1 (Oth.refl _ _) 3 _ rfl
  have s4 := CE W1 (Oth.refl _ _) 4 _ rfl
  have s5 := CE W1 (Oth.refl _ _) 5 _ rfl
  have HK2 := Lib.hid k2
  have HO1 := Lib.hid o1
  have HSB : Hid (sb = w.heap.size) := hsb
  clear hW1 k1 k2 k3 hsb CE HL o1
  go_region_held3 (fun w' => w'.cell? ⟨sb, 0, none⟩ = some (.int .i64 sc) ∧ w'.cell? ⟨sb, 1, none⟩ = some (.int .i64 s.next) ∧ w'.cell? ⟨sb, 2, none⟩ = some (.int .i64 s.high) ∧ w'.cell? ⟨sb, 3, none⟩ = some (.int .i64 s.peak) ∧ w'.cell? ⟨sb, 4, none⟩ = some (.int .i64 s.moves) ∧ w'.cell? ⟨sb, 5, none⟩ = some (.slice base n cap)) (first | exact ⟨s0, s1, s2, s3, s4, s5⟩ | exact ⟨u0, u1, u2, u3, u4, u5⟩)
    (first | (go_at_call 38; refine (HLC.out _ ?_).mono ?_; exact (Oth.refl _ _).drew; rintro e w3 ⟨rfl, u0, u1, u2, u3, u4, u5, HF⟩))
  have hr3 := HF.out.heap HK2.out (by simp)
  have cr : ∀ (i : Nat) (v : Value), #[Value.int .i64 0, .int .i64 0, .int .i64 0, .int .i64 0, .int .i64 0, .slice none 0 0][i]? = some v → w3.cell? ⟨sb + 1, i, none⟩ = some v := fun i v h => by simp only [World.cell?, hr3]; exact h
  have r0 := cr 0 _ rfl
  have r1 := cr 1 _ rfl
  have r2 := cr 2 _ rfl
  have r3 := cr 3 _ rfl
  have r4 := cr 4 _ rfl
  have r5 := cr 5 _ rfl
  have f1 : ∀ i, w3.frozen? ⟨sb + 1, i, none⟩ = false := fun i => by simp [World.frozen?, hr3]
  have HR3 := Lib.hid hr3
  clear hr3 cr
  go_wp2
  have hrf : (six w3 (sb + 1) (.int .i64 sc) (.int .i64 s.next) (.int .i64 s.high) (.int .i64 s.peak) (.int .i64 s.moves) (.slice base n cap)).heap[sb + 1]? = some (.cells #[.int .i64 sc, .int .i64 s.next, .int .i64 s.high, .int .i64 s.peak, .int .i64 s.moves, .slice base n cap] 55 (0, 0)) := six_heap HR3.out
  have hof : Oth [] w (six w3 (sb + 1) (.int .i64 sc) (.int .i64 s.next) (.int .i64 s.high) (.int .i64 s.peak) (.int .i64 s.moves) (.slice base n cap)) := six_oth (HO1.out.trans HF.out (Fr.nil _ _)) (.inr (by rw [HSB.out]; omega))
  exact bodyPost_ret (ret36 hrf) rfl ⟨rfl, hof⟩
end Go.Proofs.Ythllilkafdgheaa
