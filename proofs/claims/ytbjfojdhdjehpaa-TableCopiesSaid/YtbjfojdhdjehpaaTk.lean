/- Lists of pairs in memory; the walks of the reference's Del, Set and Find. Condition: at most 1000 pairs. -/
import Derived.Test.YtbjfojdhdjehpaaTh
namespace Go.Proofs.Ytbjfojdhdjehpaa
open Go.RowKit
set_option linter.unusedVariables false
set_option linter.unusedSimpArgs false

theorem Try.info43 : (Try.prog.info? 43).map (fun i => (i.zero, i.size, i.bytes)) = some (some (.agg #[.int .i64 0, .string ⟨#[]⟩]), 2, 24) := by kernel_rfl

/-- A value that reads as these pairs; B: the blocks where they lie. -/
def RP (v : Value) (x : List (Int × ByteArray)) (B : List Nat) (w : World) : Prop :=
  ∃ b cap, v = .slice b x.length cap ∧ ∀ i k s, x[i]? = some (k, s) → ∃ g, b = some ⟨g, 0, none⟩ ∧ g ∈ B ∧ w.cell? ⟨g, i * 2, none⟩ = some (.int .i64 k) ∧ w.cell? ⟨g, i * 2 + 1, none⟩ = some (.string s)

theorem RP.oth {v : Value} {x : List (Int × ByteArray)} {B S : List Nat} {w w' : World} (h : RP v x B w) (ho : Oth S w w') (hd : ∀ k, k ∈ B → k ∉ S) : RP v x B w' := by
  obtain ⟨b, cap, rfl, hc⟩ := h
  refine ⟨b, cap, rfl, fun i k s hi => ?_⟩
  obtain ⟨g, hb, hg, c1, c2⟩ := hc i k s hi
  exact ⟨g, hb, hg, ho.cell c1 (hd g hg), ho.cell c2 (hd g hg)⟩
theorem RP.nil (w : World) : RP (.slice none 0 0) [] [] w := ⟨none, 0, rfl, fun i k s h => by simp at h⟩
theorem rp_of_owns {w : World} {B0 : Nat} {v : Value} {x : List (Int × ByteArray)} (h : w.ownsRow B0 43 2 v x.length (ent_is x)) : ∃ B, RP v x B w ∧ (∀ k, k ∈ B → B0 ≤ k ∧ k < w.heap.size) := by
  rcases Nat.eq_zero_or_pos x.length with h0 | h0
  · have hx : x = [] := List.eq_nil_of_length_eq_zero h0
    subst hx
    refine ⟨[], ?_, by simp⟩
    rcases h.2 with ⟨rfl, _⟩ | ⟨g, cap, cur, rfl, _⟩
    · exact ⟨none, 0, rfl, fun i k s h => by simp at h⟩
    · exact ⟨_, cap, rfl, fun i k s h => by simp at h⟩
  · obtain ⟨g, cap, rfl, hg, hr⟩ := row_of_owns h h0
    refine ⟨[g], ⟨_, cap, rfl, fun i k s hi => ⟨g, rfl, by simp, hr.cell (ecs_key x i k s hi), hr.cell (ecs_val x i k s hi)⟩⟩, fun k hk => ?_⟩
    simp at hk; subst hk; exact ⟨hg, hr.lt⟩

/-- The list without a key. -/
def delP (k : Int) (x : List (Int × ByteArray)) : List (Int × ByteArray) := x.filter (fun p => decide (p.1 ≠ k))

set_option maxHeartbeats 4000000 in
set_option maxRecDepth 100000 in
theorem Del_own (v : Value) (x : List (Int × ByteArray)) (B : List Nat) (k : Int) (w : World) (hv : RP v x B w) (h1 : x.length ≤ 1000) :
    Calls Try.prog 31 #[v, .int .i64 k] w fun e w' => ∃ v', e = .returned v' ∧ w'.ownsRow w.heap.size 43 2 v' (delP k x).length (ent_is (delP k x)) ∧ Oth [] w w' := by
  obtain ⟨i0, hi, hz0, hz1, hz2⟩ := info_parts Try.info43
  obtain ⟨b, cap, rfl, hc⟩ := hv
  obtain ⟨n, hn⟩ : ∃ n, n = x.length := ⟨_, rfl⟩
  rw [← hn] at h1 ⊢
  have HN := Lib.hid hn
  have HC := Lib.hid hc
  clear hn hc
  go_enter Try.func31, Try.ntmps31
  go_wp2
  go_loopw [5, 6] (fun u j wr => ∃ i : Nat, i ≤ n ∧ j = .int .i64 i ∧ Hid (wr.ownsRow w.heap.size 43 2 u (delP k (x.take i)).length (ent_is (delP k (x.take i)))) ∧ Oth [] w wr) (fun _ j _ => (n - intOf j).toNat)
  case atStart => exact ⟨0, by omega, rfl, World.ownsRow_nil _ _ _ _, Oth.refl _ _⟩
  case round =>
    obtain ⟨i, hin, rfl, hown, ho⟩ := hrel
    by_cases hlt : i < n
    · have t1 : (i : Int) < (n : Int) := by omega
      obtain ⟨⟨a, s⟩, hav⟩ : ∃ p, x[i]? = some p := ⟨_, List.getElem?_eq_getElem (by have := HN.out; omega)⟩
      obtain ⟨g, rfl, hg, c1, c2⟩ := HC.out i a s hav
      have e1 := ho.cell c1 (by simp)
      have e2 := ho.cell c2 (by simp)
      have hsz := ho.size
      have HT : Hid (delP k (x.take (i + 1)) = delP k (x.take i) ++ (if a = k then [] else [(a, s)])) := by
        show _ = _
        rw [List.take_add_one, hav]
        unfold delP
        rw [List.filter_append]
        by_cases e : a = k <;> simp [e]
      have hdl : (delP k (x.take i)).length ≤ 1000 := by
        have := List.length_filter_le (fun p : Int × ByteArray => decide (p.1 ≠ k)) (x.take i)
        rw [List.length_take] at this
        unfold delP; omega
      obtain ⟨D, hD⟩ : ∃ D, D = delP k (x.take i) := ⟨_, rfl⟩
      rw [← hD] at hown HT hdl
      obtain ⟨d, hd⟩ : ∃ d, d = D.length := ⟨_, rfl⟩
      rw [← hd] at hown hdl
      have HDD := Lib.hid hd
      clear hav c1 c2 hD hd
      by_cases hak : a = k
      · subst hak
        rw [if_pos rfl, List.append_nil] at HT
        go_wp2_with fail
        go_roundw
        case rel => exact ⟨i + 1, by omega, by go_num, by rw [HT.out, ← HDD.out]; exact hown, ho⟩
        case measure => simp [intOf]; omega
      · rw [if_neg hak] at HT
        go_wp2_with (at_builtin; refine wpList_append_own _ rfl _ _ 36 rfl w.heap.size 43 i0 _ 2 24 Try.underlying36 hi hz0 hz1 hz2 rfl (by decide) _ _ _ rfl (hown.out.alloc _) ⟨wr.heap.size, 0, none⟩ 1 1 [.int .i64 a, .string s] rfl rfl ?c1 ?c2 ?c3 ?c4 ?c5 ?_)
        case c1 =>
          intro j u hu
          match j with
          | 0 => simp at hu; subst hu; rw [Addr.add_lit]; exact (World.cell?_alloc_at _ _ wr.heap.size 0 rfl)
          | 1 => simp at hu; subst hu; rw [Addr.add_lit]; exact (World.cell?_alloc_at _ _ wr.heap.size 1 rfl)
          | j + 2 => simp at hu
        case c2 => intro u hu; simp at hu; rcases hu with rfl | rfl <;> rfl
        case c3 => unfold maxLen; omega
        case c4 => omega
        case c5 => simp; omega
        intro v' w1 hown1 hgrow1 _
        have ho1 : Oth [] w w1 := (ho.alloc _).grown hgrow1 (fun k hk => by have := hown.out.lt k hk; exact .inr this.1)
        have HO1 : Hid (w1.ownsRow w.heap.size 43 2 v' (delP k (x.take (i + 1))).length (ent_is (delP k (x.take (i + 1))))) := by
          have e1 : (D ++ [(a, s)]).length = d + 1 := by rw [List.length_append, ← HDD.out]; rfl
          rw [HT.out, e1]
          unfold ent_is
          rw [ecs_append]; exact hown1
        clear hown1 hgrow1 hown e1 e2 HT
        go_wp2
        go_roundw
        case rel => exact ⟨i + 1, by omega, by go_num, HO1, ho1⟩
        case measure => simp [intOf]; omega
    · obtain rfl : i = n := by omega
      have t1 : ¬ (i : Int) < (i : Int) := by omega
      have HO2 : Hid (wr.ownsRow w.heap.size 43 2 u5 (delP k x).length (ent_is (delP k x))) := by
        have := hown.out
        rw [List.take_of_length_le (by have := HN.out; omega)] at this
        exact this
      clear hown
      go_wp2
      go_ret
      exact ⟨_, rfl, HO2.out, ho⟩
end Go.Proofs.Ytbjfojdhdjehpaa
