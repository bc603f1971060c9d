/- The walk of Give. Condition: small numbers, the blocks in order. -/
import Derived.Test.YthllilkafdgheaaAia
namespace Go.Proofs.Ythllilkafdgheaa
open Go.RowKit
set_option linter.unusedVariables false
set_option linter.unusedSimpArgs false

set_option maxHeartbeats 4000000 in
set_option maxRecDepth 100000 in
theorem Give_range (p : Nat) (S : List Nat) (s : St) (words : Int) (w : World) (hw : words < 1 ∨ 65536 < words) :
    Calls Try.prog 11 #[.pointer (some ⟨p, 0, none⟩), .int .i64 words] w fun e w' => e = .returned (.tuple #[.int .i64 0, .int .i64 11]) ∧ w = w' := by
  rcases hw with hw | hw
  · go_enter Try.func11, Try.ntmps11
    go_wp2_with fail
    go_ret2
    exact ⟨rfl, rfl⟩
  · have h2 : ¬ words < 1 := by omega
    go_enter Try.func11, Try.ntmps11
    go_wp2_with fail
    go_ret2
    exact ⟨rfl, rfl⟩

set_option maxHeartbeats 4000000 in
set_option maxRecDepth 100000 in
theorem Give_full (p : Nat) (S : List Nat) (s : St) (words : Nat) (w : World) (h : Ar p S s w) (hg : Good s) (h1 : 1 ≤ words) (h2 : words ≤ 65536) (h3 : s.cap < s.live + words) (hl : s.live ≤ s.cap) :
    Calls Try.prog 11 #[.pointer (some ⟨p, 0, none⟩), .int .i64 words] w fun e w' => e = .returned (.tuple #[.int .i64 0, .int .i64 15]) ∧ Oth [] w w' := by
  obtain ⟨cv, bv, mb, cs, hS, ha⟩ := h
  have c0 : w.cell? ⟨p, 0, none⟩ = some (.int .i64 s.cap) := ha.cell rfl
  have c6 : w.cell? ⟨p, 6, none⟩ = some (.int .i64 s.live) := ha.cell rfl
  have hcap := hg.cap
  obtain ⟨cp, hcp⟩ : ∃ a, a = s.cap := ⟨_, rfl⟩
  obtain ⟨lv, hlv⟩ : ∃ a, a = s.live := ⟨_, rfl⟩
  rw [← hcp] at c0 h3 hl hcap
  rw [← hlv] at c6 h3 hl
  have t1 : ¬ (words : Int) < 1 := by omega
  have t2 : ¬ (65536 : Int) < (words : Int) := by omega
  have t3 : (cp : Int) - (lv : Int) < (words : Int) := by omega
  have t4 : IntKind.i64.wrap ((cp : Int) - (lv : Int)) = (cp : Int) - (lv : Int) := by rw [IntKind.wrap_i64]; omega
  clear ha hg hcp hlv hS
  go_enter Try.func11, Try.ntmps11
  go_wp2_with fail
  go_quiet (fail)
  go_wp2_with fail
  go_ret2
  exact ⟨rfl, (Oth.refl _ _).drewN _⟩

/-- The arena when a block is placed in the list M before place j. -/
def placed (s : St) (M : List Blk) (j words pk mv : Nat) : St :=
  { cap := s.cap, L := M.take j ++ ⟨s.next + 1, E M j, words, List.replicate words 0⟩ :: M.drop j, packed := pk, next := s.next + 1, live := s.live + words, high := max s.high (E M j + words), peak := max s.peak (s.live + words), moves := mv }
/-- What Give leaves. -/
def Given (s : St) (words : Nat) (s' : St) : Prop :=
  (∃ k i, GapR s words k i true ∧ s' = placed s s.L i words k s.moves) ∨ (∃ k, GapR s words k s.L.length false ∧ s' = placed s (comp 0 s.L) s.L.length words s.L.length (s.moves + 1))

theorem E_comp (L : List Blk) : E (comp 0 L) L.length = sumN L := by
  cases hq : L.length with
  | zero => have : L = [] := List.eq_nil_of_length_eq_zero hq; subst this; rfl
  | succ m =>
    obtain ⟨x, hx⟩ : ∃ x, L[m]? = some x := ⟨_, List.getElem?_eq_getElem (by omega)⟩
    simp only [E]
    rw [comp_get L m x hx 0]
    simp only
    have h1 := sumN_take_succ hx
    rw [List.take_of_length_le (by omega)] at h1
    omega
theorem comp_srt (L : List Blk) : ∀ t, Srt (comp t L) := by
  induction L with
  | nil => intro t; exact List.Pairwise.nil
  | cons b r ih =>
    intro t
    refine List.pairwise_cons.2 ⟨fun y hy => ?_, ih _⟩
    exact (comp_mem r _ y hy).1
theorem sum_le_end : ∀ (L : List Blk) (t H : Nat), Srt L → (∀ b, b ∈ L → t ≤ b.f ∧ b.f + b.n ≤ H) → t ≤ H → t + sumN L ≤ H
  | [], t, H, _, _, h => by simpa [sumN] using h
  | b :: r, t, H, hs, hb, h => by
    obtain ⟨h1, h2⟩ := List.pairwise_cons.1 hs
    have h3 := hb b (by simp)
    have := sum_le_end r (t + b.n) H h2 (fun y hy => by have := h1 y hy; have := hb y (by simp [hy]); omega) (by omega)
    rw [sumN_cons]; omega
theorem Good.sum_high {s : St} (h : Good s) : sumN s.L ≤ s.high := by
  have := sum_le_end s.L 0 s.high h.srt (fun b hb => ⟨Nat.zero_le _, (h.blk b hb).2.1⟩) (Nat.zero_le _)
  omega

/-- Where a block may be placed in M before place i. -/
structure Fit (s : St) (words : Nat) (M : List Blk) (i pk mv : Nat) : Prop where
  giv : Given s words (placed s M i words pk mv)
  srt : Srt M
  blk : ∀ b, b ∈ M → 1 ≤ b.n ∧ b.f + b.n ≤ s.high ∧ b.h ≤ s.next
  len : M.length = s.L.length
  le : i ≤ M.length
  fit : E M i + words ≤ s.cap
  after : ∀ j x, i ≤ j → M[j]? = some x → E M i + words ≤ x.f
  before : ∀ j x, j < i → M[j]? = some x → x.f + x.n ≤ E M i
  pk : pk ≤ M.length
theorem before_E {M : List Blk} (hs : Srt M) {i j : Nat} {x : Blk} (hi : i ≤ M.length) (hj : j < i) (hx : M[j]? = some x) : x.f + x.n ≤ E M i := by
  cases i with
  | zero => omega
  | succ m =>
    obtain ⟨y, hy⟩ : ∃ y, M[m]? = some y := ⟨_, List.getElem?_eq_getElem (by omega)⟩
    simp only [E, hy]
    rcases Nat.lt_or_ge j m with h | h
    · obtain ⟨h1, h2⟩ := List.getElem?_eq_some_iff.1 hx
      obtain ⟨h3, h4⟩ := List.getElem?_eq_some_iff.1 hy
      have := List.pairwise_iff_getElem.1 hs j m h1 h3 h
      rw [h2, h4] at this; omega
    · obtain rfl : j = m := by omega
      rw [hx] at hy; cases hy; omega
theorem fit_gap {s : St} {words k i : Nat} (hg : Good s) (h : GapR s words k i true) (hw : s.live + words ≤ s.cap) : Fit s words s.L i k s.moves := by
  have hfit : ∀ x, s.L[i]? = some x → E s.L i + words ≤ x.f := fun x hx => by have := (h.here x hx).2; omega
  refine ⟨.inl ⟨k, i, h, rfl⟩, hg.srt, fun b hb => ?_, rfl, h.le3, ?_, fun j x hij hx => ?_, fun j x hj hx => before_E hg.srt h.le3 hj hx, Nat.le_trans h.le2 h.le3⟩
  · have := hg.blk b hb; exact ⟨this.1, this.2.1, this.2.2.2.2⟩
  · rcases Nat.lt_or_ge i s.L.length with hl | hl
    · obtain ⟨x, hx⟩ : ∃ x, s.L[i]? = some x := ⟨_, List.getElem?_eq_getElem hl⟩
      have h1 := hfit x hx
      have h2 := (hg.blk x (List.mem_of_getElem? hx)).2.1
      have := hg.high
      omega
    · have := (h.last (by have := h.le3; omega)).1 rfl
      omega
  · obtain ⟨hjl, h4⟩ := List.getElem?_eq_some_iff.1 hx
    obtain ⟨y, hy⟩ : ∃ y, s.L[i]? = some y := ⟨_, List.getElem?_eq_getElem (by omega)⟩
    have h1 := hfit y hy
    rcases Nat.lt_or_ge i j with h5 | h5
    · obtain ⟨h2, h3⟩ := List.getElem?_eq_some_iff.1 hy
      have := List.pairwise_iff_getElem.1 hg.srt i j h2 hjl h5
      rw [h3, h4] at this; omega
    · obtain rfl : j = i := by omega
      rw [hx] at hy; cases hy; exact h1
theorem fit_comp {s : St} {words k : Nat} (hg : Good s) (h : GapR s words k s.L.length false) (hw : s.live + words ≤ s.cap) : Fit s words (comp 0 s.L) s.L.length s.L.length (s.moves + 1) := by
  refine ⟨.inr ⟨k, h, rfl⟩, comp_srt _ _, fun b hb => ?_, comp_length _ _, by rw [comp_length]; exact Nat.le_refl _, by rw [E_comp, ← hg.live]; exact hw, fun j x hij hx => ?_, fun j x hj hx => ?_, by rw [comp_length]; exact Nat.le_refl _⟩
  · obtain ⟨h1, h2, b', h3, h4, h5, _⟩ := comp_mem _ _ _ hb
    have h6 := hg.blk b' h3
    have := hg.sum_high
    rw [h4, h5] at h6
    exact ⟨h6.1, by omega, h6.2.2.2.2⟩
  · have := (List.getElem?_eq_some_iff.1 hx).1
    rw [comp_length] at this; omega
  · rw [E_comp]
    have := (comp_mem _ _ _ (List.mem_of_getElem? hx)).2.1
    omega
theorem Good.pack {s : St} {words k i : Nat} {ok : Bool} (hg : Good s) (h : GapR s words k i ok) : Good { s with packed := k } := by
  refine ⟨hg.srt, hg.blk, hg.hnd, hg.high, hg.cap, hg.cntn, hg.nxt, Nat.le_trans h.le2 h.le3, hg.live, hg.peak, fun j x hj hx => ?_, hg.mv⟩
  rcases Nat.lt_or_ge j s.packed with h1 | h1
  · exact hg.tight j x h1 hx
  · exact h.tight j x h1 hj hx
end Go.Proofs.Ythllilkafdgheaa
