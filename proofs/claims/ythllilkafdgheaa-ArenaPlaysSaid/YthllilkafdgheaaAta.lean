/- The walk of slices.Clone at blocks, nil or not. Condition: at most 1000 blocks. -/
import Derived.Test.YthllilkafdgheaaAra
namespace Go.Proofs.Ythllilkafdgheaa
open Go.RowKit
set_option linter.unusedVariables false
set_option linter.unusedSimpArgs false

set_option maxHeartbeats 400000 in
theorem clone_blk (bv : Value) (L : List Blk) (w : World) (h : w.ownsRow 0 45 3 bv L.length (bcs L)) (h1 : L.length ≤ 1000) :
    Calls Try.prog 34 #[bv] w fun e w' => ∃ v', e = .returned v' ∧ w'.ownsRow w.heap.size 45 3 v' L.length (bcs L) ∧ Oth [] w w' := by
  obtain ⟨i0, hi, hz0, hz1, hz2⟩ := info_parts Try.info45
  rcases h.2 with ⟨rfl, h6⟩ | ⟨g, c, cur, rfl, h6, h7, h8, h9, h10, h11⟩
  · have hM : L = [] := List.eq_nil_of_length_eq_zero h6
    subst hM
    have heq : ∀ w, (binOp .eql 61 (.slice none 0 0) (.slice none 0 0)).run Try.prog w = .ok (.bool true) w := fun w => by
      have := Lib.run_eql_slice_nil (P := Try.prog) w 61 45 none 0 0 0 0 Try.underlying61
      simpa using this
    have HW : Hid (w.ownsRow w.heap.size 45 3 (.slice none 0 0) ([] : List Blk).length (bcs [])) := ⟨rfl, .inl ⟨rfl, rfl⟩⟩
    clear h
    go_enter Try.func34, Try.ntmps34
    go_wp2_with fail
    go_ret
    exact ⟨_, rfl, HW.out, Oth.refl _ _⟩
  · obtain ⟨n, hn⟩ : ∃ n, n = L.length := ⟨_, rfl⟩
    have hel : (bcs L).length = n * 3 := by rw [bcs_length, hn]
    have hone : ∀ u ∈ bcs L, u.oneCell' = true := bcs_one L
    rw [← hn] at h1 h8 h11 ⊢
    have HR : Hid (∀ j u, (bcs L)[j]? = some u → w.cell? ⟨g, j, none⟩ = some u) := fun j u hu => by
      rw [← h11, List.getElem?_take] at hu
      split at hu
      · simp only [World.cell?, h7]; rw [Array.getElem?_toList] at hu; exact hu
      · cases hu
    obtain ⟨xs, hxs⟩ : ∃ xs, xs = bcs L := ⟨_, rfl⟩
    rw [← hxs] at hel hone HR ⊢
    clear h hn hxs h6 h7 h8 h9 h10 h11
    have hown : (w.alloc (.cells #[] 45)).ownsRow w.heap.size 45 3 (.slice (some ⟨w.heap.size, 0, none⟩) 0 0) 0 [] := ⟨rfl, .inr ⟨w.heap.size, 0, #[], rfl, Nat.le_refl _, heap_alloc_new _ _, Nat.le_refl _, by unfold maxLen; omega, rfl, rfl⟩⟩
    have heq : ∀ w, (binOp .eql 61 (.slice (some ⟨g, 0, none⟩) n c) (.slice none 0 0)).run Try.prog w = .ok (.bool false) w := fun w => by
      have := Lib.run_eql_slice_nil (P := Try.prog) w 61 45 (some ⟨g, 0, none⟩) n c 0 0 Try.underlying61
      simpa using this
    have HON := Lib.hid hone
    have HEL := Lib.hid hel
    clear hone hel
    go_enter Try.func34, Try.ntmps34
    go_wp2_with (at_builtin; refine wpList_append_own_at _ rfl _ _ 61 rfl w.heap.size 45 i0 _ 3 24 Try.underlying61 hi hz0 hz1 hz2 rfl (by decide) _ _ _ rfl hown ⟨g, 0, none⟩ n c xs rfl ?c0 ?c1 ?c2 ?c3 ?c4 ?c5 ?_)
    case c0 => exact HEL.out
    case c1 =>
      intro j u hu
      rw [Addr.add_lit, Nat.zero_add]
      exact ((Oth.refl [] w).alloc _).cell (HR.out j u hu) (by simp)
    case c2 => exact HON.out
    case c3 => unfold maxLen; omega
    case c4 => omega
    case c5 => simp
    intro v' w1 hown1 hgrow1 _ _
    have hb1 : Oth [] w w1 := ((Oth.refl _ w).alloc _).grown hgrow1 (fun k hk => by simp [Value.ownBlock] at hk; exact .inr (by omega))
    have HO := Lib.hid hown1
    clear hown1 hgrow1
    go_wp2
    go_ret
    exact ⟨v', rfl, by simpa using HO.out, hb1⟩

theorem All_any (p : Nat) (w : World) :
    Calls Try.prog 22 #[.pointer (some ⟨p, 0, none⟩)] w fun e w' => e = .returned (.func (.func 33) #[] #[.pointer (some ⟨w.heap.size, 0, none⟩)]) ∧ ∃ t, w' = w.alloc (.cells #[.pointer (some ⟨p, 0, none⟩)] t) := by
  go_enter Try.func22, Try.ntmps22
  go_wp2
  go_ret
  exact ⟨rfl, _, rfl⟩
end Go.Proofs.Ythllilkafdgheaa
