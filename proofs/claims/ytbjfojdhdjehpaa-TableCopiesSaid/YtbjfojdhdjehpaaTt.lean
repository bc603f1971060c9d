/- The walks of slices.Clone at entries and of Copy: another table with the same entries, of new blocks. Condition: at most 1000 entries. -/
import Derived.Test.YtbjfojdhdjehpaaTr
import Derived.Maps.AppendAt
import Derived.Laws.MakeOwn
namespace Go.Proofs.Ytbjfojdhdjehpaa
open Go.RowKit
set_option linter.unusedVariables false
set_option linter.unusedSimpArgs false

set_option maxHeartbeats 400000 in
theorem clone_ent (g n cap : Nat) (L : List (Int × ByteArray)) (w : World) (h0 : 0 < n) (hn : n = L.length) (h1 : n ≤ 1000) (hr : Row 71 2 g n cap (ent_is L) w) :
    Calls Try.prog 29 #[.slice (some ⟨g, 0, none⟩) n cap] w fun e w' => ∃ g' cap', e = .returned (.slice (some ⟨g', 0, none⟩) n cap') ∧ w.heap.size ≤ g' ∧ Row 71 2 g' n cap' (ent_is L) w' ∧ Oth [] w w' := by
  obtain ⟨i0, hi, hz0, hz1, hz2⟩ := info_parts Try.info71
  have HR := Lib.hid hr
  have hel : (ent_is L).length = n * 2 := by unfold ent_is; rw [ecs_length, hn]
  have hone : ∀ u ∈ ent_is L, u.oneCell' = true := ecs_one (fun _ => rfl) (fun _ => rfl) L
  obtain ⟨xs, hxs⟩ : ∃ xs, xs = ent_is L := ⟨_, rfl⟩
  rw [← hxs] at hel hone HR ⊢
  clear hr hn hxs
  have hown : (w.alloc (.cells #[] 71)).ownsRow w.heap.size 71 2 (.slice (some ⟨w.heap.size, 0, none⟩) 0 0) 0 [] := ⟨rfl, .inr ⟨w.heap.size, 0, #[], rfl, Nat.le_refl _, heap_alloc_new _ _, Nat.le_refl _, by unfold maxLen; omega, rfl, rfl⟩⟩
  have heq : ∀ w, (binOp .eql 72 (.slice (some ⟨g, 0, none⟩) n cap) (.slice none 0 0)).run Try.prog w = .ok (.bool false) w := fun w => by
    have := Lib.run_eql_slice_nil (P := Try.prog) w 72 71 (some ⟨g, 0, none⟩) n cap 0 0 Try.underlying72
    simpa using this
  have HON := Lib.hid hone
  have HEL := Lib.hid hel
  clear hone hel
  go_enter Try.func29, Try.ntmps29
  go_wp2_with (at_builtin; refine wpList_append_own_at _ rfl _ _ 72 rfl w.heap.size 71 i0 _ 2 24 Try.underlying72 hi hz0 hz1 hz2 rfl (by decide) _ _ _ rfl hown ⟨g, 0, none⟩ n cap xs rfl ?c0 ?c1 ?c2 ?c3 ?c4 ?c5 ?_)
  case c0 => exact HEL.out
  case c1 =>
    intro j u hu
    rw [Addr.add_lit, Nat.zero_add]
    exact ((Oth.refl [] w).alloc _).cell (HR.out.cell hu) (by simp)
  case c2 => exact HON.out
  case c3 => unfold maxLen; omega
  case c4 => omega
  case c5 => simp
  intro v' w1 hown1 hgrow1 _ _
  have hb1 : Oth [] w w1 := ((Oth.refl _ w).alloc _).grown hgrow1 (fun k hk => by simp [Value.ownBlock] at hk; exact .inr (by omega))
  obtain ⟨g', cap', rfl, hg', hR⟩ := row_of_owns hown1 h0
  have HO := Lib.hid hR
  clear hown1 hgrow1 hR
  go_wp2
  go_ret
  exact ⟨g', cap', rfl, hg', HO.out, hb1⟩

set_option maxHeartbeats 4000000 in
set_option maxRecDepth 100000 in
theorem Copy_any (p : Nat) (S : List Nat) (L : List (Int × ByteArray)) (w : World) (ht : Tab_is p S L w) (h1 : L.length ≤ 1000) :
    Calls Try.prog 19 #[.pointer (some ⟨p, 0, none⟩)] w fun e w' => ∃ q, e = .returned (.pointer (some ⟨q, 0, none⟩)) ∧ NewTab_is w q L w' := by
  obtain ⟨i0, hi, hz0, hz1, hz2⟩ := info_parts Try.info72
  rcases ht with ⟨rfl, rfl, b, c, hp⟩ | ⟨h0, gp, c, g, cap, rfl, n1, n2, n3, hp, hc, hgp, hr⟩
  · have c1 : w.cell? ⟨p, 0, none⟩ = some (.slice b 0 c) := by simp [World.cell?, hp]
    have c2 : w.cell? ⟨p, 1, none⟩ = some (.int .i64 0) := by simp [World.cell?, hp]
    have hpl := lt_of_block hp
    have hmk : ∀ w, _ := fun w => run_make (P := Try.prog) w 33 72 i0 (.slice none 0 0) Try.underlying33 hi hz0 .i64 .i64 0 0 (by omega) (by omega) (by rw [hz2]; omega) (by omega)
    rw [hz1] at hmk
    simp only [Int.toNat_zero, Int.toNat_natCast, Nat.mul_one] at hmk
    clear hp
    go_enter Try.func19, Try.ntmps19
    go_wp2_with fail
    go_region
    have HT : Hid (NewTab_is w (w.heap.size + 1) [] (((w.alloc (.cells (madeCells #[.slice none 0 0] 0) 72)).alloc (.cells #[.slice (some ⟨w.heap.size, 0, none⟩) 0 0, .int .i64 0] 35)).drew)) := by
      refine ⟨[w.heap.size + 1], .inl ⟨rfl, rfl, some ⟨w.heap.size, 0, none⟩, 0, ?_⟩, (((Oth.refl _ _).alloc _).alloc _).drew, by simp⟩
      have := heap_alloc_new (w.alloc (.cells (madeCells #[.slice none 0 0] 0) 72)) (.cells #[.slice (some ⟨w.heap.size, 0, none⟩) 0 0, .int .i64 0] 35)
      rw [World.size_alloc] at this
      exact this
    go_wp2_with fail
    go_loop [23] (fun x => x = .int .i64 0) (fun _ => 0)
    case atStart => rfl
    case round =>
      subst hrel
      go_wp2_with fail
      go_ret
      first | exact ⟨_, rfl, HT.out⟩ | exact HT.out
  · have c1 : w.cell? ⟨p, 0, none⟩ = some (.slice (some ⟨gp, 0, none⟩) 1 c) := by simp [World.cell?, hp]
    have c2 : w.cell? ⟨p, 1, none⟩ = some (.int .i64 L.length) := by simp [World.cell?, hp]
    have c3 : w.cell? ⟨gp, 0, none⟩ = some (.slice (some ⟨g, 0, none⟩) L.length cap) := by simp [World.cell?, hgp]
    have hmk : ∀ w, _ := fun w => run_make (P := Try.prog) w 33 72 i0 (.slice none 0 0) Try.underlying33 hi hz0 .i64 .i64 1 1 (by omega) (by omega) (by rw [hz2]; omega) (by omega)
    rw [hz1] at hmk
    simp only [Int.toNat_one, Int.toNat_natCast, Nat.mul_one] at hmk
    have hpl := lt_of_block hp
    have hgpl := lt_of_block hgp
    obtain ⟨n, hn⟩ : ∃ n, n = L.length := ⟨_, rfl⟩
    rw [← hn] at c2 c3 h1 h0 hr
    have HN := Lib.hid hn
    have HR := Lib.hid hr
    clear hp hgp hr n1 n2 n3 hn hc
    go_enter Try.func19, Try.ntmps19
    go_wp2_with fail
    go_region
    obtain ⟨W, hW⟩ : ∃ W, W = ((w.alloc (.cells (madeCells #[.slice none 0 0] 1) 72)).alloc (.cells #[.slice (some ⟨w.heap.size, 0, none⟩) 1 1, .int .i64 n] 35)).drew := ⟨_, rfl⟩
    have hoW : Oth [] w W := by rw [hW]; exact (((Oth.refl _ _).alloc _).alloc _).drew
    have hq : W.heap[w.heap.size + 1]? = some (.cells #[.slice (some ⟨w.heap.size, 0, none⟩) 1 1, .int .i64 n] 35 (0, 0)) := by
      have := heap_alloc_new (w.alloc (.cells (madeCells #[.slice none 0 0] 1) 72)) (.cells #[.slice (some ⟨w.heap.size, 0, none⟩) 1 1, .int .i64 n] 35)
      rw [World.size_alloc] at this
      rw [hW]
      exact this
    have hg : W.heap[w.heap.size]? = some (.cells #[.slice none 0 0] 72 (0, 0)) := by
      rw [hW]
      have : ((w.alloc (.cells (madeCells #[.slice none 0 0] 1) 72)).alloc (.cells #[.slice (some ⟨w.heap.size, 0, none⟩) 1 1, .int .i64 n] 35)).heap[w.heap.size]? = some (.cells (madeCells #[.slice none 0 0] 1) 72 (0, 0)) := by
        rw [Below.heap_alloc _ _ _ (by simp)]; exact heap_alloc_new _ _
      have hm1 : madeCells #[.slice none 0 0] 1 = #[.slice none 0 0] := by kernel_rfl
      rw [hm1] at this ⊢
      exact this
    rw [← hW]
    have e1 := hoW.cell c1 (by simp)
    have e3 := hoW.cell c3 (by simp)
    have e4 : W.cell? ⟨w.heap.size + 1, 0, none⟩ = some (.slice (some ⟨w.heap.size, 0, none⟩) 1 1) := by simp [World.cell?, hq]
    have hsz : W.heap.size = w.heap.size + 2 := by rw [hW]; simp
    have HW := Lib.hid hW
    have HQ := Lib.hid hq
    have HG := Lib.hid hg
    have HCL : ∀ w1, Oth [] W w1 → Hid (Calls Try.prog 29 #[.slice (some ⟨g, 0, none⟩) n cap] w1 fun e w' => ∃ g' cap', e = .returned (.slice (some ⟨g', 0, none⟩) n cap') ∧ w'.cell? ⟨w.heap.size + 1, 0, none⟩ = some (.slice (some ⟨w.heap.size, 0, none⟩) 1 1) ∧ w'.cell? ⟨w.heap.size, 0, none⟩ = some (.slice none 0 0) ∧ w'.frozen? ⟨w.heap.size, 0, none⟩ = false ∧ Hid (w.heap.size + 2 ≤ g' ∧ Row 71 2 g' n cap' (ent_is L) w' ∧ Oth [] W w')) := fun w1 ho => by
      refine (clone_ent g n cap L w1 h0 HN.out h1 ((HR.out.oth hoW (by simp)).oth ho (by simp))).mono ?_
      rintro e w' ⟨g', cap', rfl, h2, h3, h4⟩
      have ho2 := ho.trans h4 (Fr.nil _ _)
      have q2 := ho2.heap HG.out (by simp)
      exact ⟨g', cap', rfl, ho2.cell e4 (by simp), by simp [World.cell?, q2], by simp [World.frozen?, q2], by have := ho.size; omega, h3, ho2⟩
    clear hW hq hg c1 c2 c3
    go_wp2_with fail
    go_loopw [23] (fun x wr => (x = .int .i64 0 ∧ wr = W) ∨ (x = .int .i64 1 ∧ Hid (NewTab_is w (w.heap.size + 1) L wr))) (fun x _ => (1 - intOf x).toNat)
    case atStart => exact .inl ⟨rfl, rfl⟩
    case round =>
      rcases hrel with ⟨rfl, rfl⟩ | ⟨rfl, hnt⟩
      · go_wp2_with fail
        go_region_with ((go_at_call 29; refine (HCL _ ((Oth.refl _ _).drew)).out.mono ?_; rintro e w2 ⟨g', cap', rfl, q1, q2, q3, HF⟩))
        all_goals
          have HNT : Hid (NewTab_is w (w.heap.size + 1) L (w2.setCell ⟨w.heap.size, 0, none⟩ (.slice (some ⟨g', 0, none⟩) n cap'))) := by
            obtain ⟨hg', hr', ho'⟩ := HF.out
            have hq := ho'.heap HQ.out (by simp)
            have hgp := ho'.heap HG.out (by simp)
            have hoo := hoW.trans ho' (Fr.nil _ _)
            have hn := HN.out
            refine ⟨[w.heap.size + 1, w.heap.size, g'], .inr ⟨by omega, w.heap.size, 1, g', cap', rfl, by omega, by omega, by omega, ?_, ⟨Nat.le_refl _, by unfold maxLen; omega⟩, ?_, ?_⟩, hoo.setCell (.inr (Nat.le_refl _)) _, by simp; omega⟩
            · rw [← hn]; exact heap_other hq (by simp) _
            · rw [← hn]; exact one_set0 hgp
            · rw [← hn]; exact hr'.other (by simp; omega) _
          clear q1 q2 q3 HF HCL HQ HG HW
          go_wp2_with fail
          go_roundw
          case rel => exact .inr ⟨by go_num, HNT⟩
          case measure => simp [intOf]
      · go_wp2
        go_ret
        first | exact ⟨_, rfl, hnt.out⟩ | exact hnt.out
end Go.Proofs.Ytbjfojdhdjehpaa
