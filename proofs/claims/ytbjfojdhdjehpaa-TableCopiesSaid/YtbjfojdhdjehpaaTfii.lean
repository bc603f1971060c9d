/- The walk of Keys at tables with int keys. Condition: at most 1000 entries. -/
import Derived.Test.YtbjfojdhdjehpaaTeii
import Derived.Laws.MakeOwn
namespace Go.Proofs.Ytbjfojdhdjehpaa
open Go.RowKit
set_option linter.unusedVariables false
set_option linter.unusedSimpArgs false

theorem Try.info3_ii : (Try.prog.info? 3).map (fun i => (i.zero, i.size, i.bytes)) = some (some (.int .i64 0), 1, 8) := by kernel_rfl

/-- The keys as cells. -/
def keyCells_ii (L : List (Int × Int)) : List Value := L.map (fun p => (Value.int .i64 p.1))

set_option maxHeartbeats 4000000 in
set_option maxRecDepth 100000 in
theorem Keys_any_ii (p : Nat) (S : List Nat) (L : List (Int × Int)) (w : World) (ht : Tab_ii p S L w) (h1 : L.length ≤ 1000) :
    Calls Try.prog 10 #[.pointer (some ⟨p, 0, none⟩)] w fun e w' => ∃ v, e = .returned v ∧ w'.ownsRow w.heap.size 3 1 v L.length (keyCells_ii L) ∧ Oth [] w w' := by
  obtain ⟨i0, hi, hz0, hz1, hz2⟩ := info_parts Try.info3_ii
  have hmk := run_make (P := Try.prog) w 22 3 i0 (.int .i64 0) Try.underlying22 hi hz0 .i64 .i64 0 L.length (by omega) (by omega) (by rw [hz2]; omega) (by omega)
  rw [hz1] at hmk
  simp only [Int.toNat_zero, Int.toNat_natCast, Nat.mul_one] at hmk
  have hom : (w.alloc (.cells (madeCells #[.int .i64 0] L.length) 3)).ownsRow w.heap.size 3 1 (.slice (some ⟨w.heap.size, 0, none⟩) 0 L.length) 0 [] :=
    World.ownsRow_made w _ L.length (Nat.le_refl _) (by unfold maxLen; omega) (by rw [size_madeCells]; omega)
  rcases ht with ⟨rfl, rfl, b, c, hp⟩ | ⟨h0, gp, c, g, cap, rfl, n1, n2, n3, hp, hc, hgp, hr⟩
  · have c1 : w.cell? ⟨p, 0, none⟩ = some (.slice b 0 c) := by simp [World.cell?, hp]
    have c2 : w.cell? ⟨p, 1, none⟩ = some (.int .i64 0) := by simp [World.cell?, hp]
    have hpl := lt_of_block hp
    have HO := Lib.hid hom
    clear hp hom
    simp only [List.length_nil, Int.natCast_zero, Int.cast_ofNat_Int] at hmk
    go_enter Try.func10, Try.ntmps10
    go_wp2
    go_loop [3, 18] (fun v x => v = .slice (some ⟨w.heap.size, 0, none⟩) 0 0 ∧ x = .int .i64 0) (fun _ _ => 0)
    case atStart => exact ⟨rfl, rfl⟩
    case round =>
      obtain ⟨rfl, rfl⟩ := hrel
      go_wp2
      go_ret
      exact ⟨_, rfl, HO.out, (Oth.refl _ _).alloc _⟩
  · have c1 : w.cell? ⟨p, 0, none⟩ = some (.slice (some ⟨gp, 0, none⟩) 1 c) := by simp [World.cell?, hp]
    have c2 : w.cell? ⟨p, 1, none⟩ = some (.int .i64 L.length) := by simp [World.cell?, hp]
    have c3 : w.cell? ⟨gp, 0, none⟩ = some (.slice (some ⟨g, 0, none⟩) L.length cap) := by simp [World.cell?, hgp]
    have hpl := lt_of_block hp
    have hgpl := lt_of_block hgp
    have hgl := hr.lt
    have HO := Lib.hid hom
    have HR := Lib.hid hr
    obtain ⟨n, hn⟩ : ∃ n, n = L.length := ⟨_, rfl⟩
    rw [← hn] at hmk c2 c3 h1 h0 HO ⊢
    have HN := Lib.hid hn
    clear hp hom hgp hr n1 n2 n3 hn hc
    go_enter Try.func10, Try.ntmps10
    go_wp2
    go_loopw [3, 18] (fun v x wr => (v = .slice (some ⟨w.heap.size, 0, none⟩) 0 n ∧ x = .int .i64 0 ∧ wr = w.alloc (.cells (madeCells #[.int .i64 0] n) 3)) ∨ (x = .int .i64 1 ∧ Hid (wr.ownsRow w.heap.size 3 1 v n (keyCells_ii L)) ∧ Oth [] w wr)) (fun _ x _ => (1 - intOf x).toNat)
    case atStart => exact .inl ⟨rfl, rfl, rfl⟩
    case round =>
      rcases hrel with ⟨rfl, rfl, rfl⟩ | ⟨rfl, hown, ho⟩
      · have d3 := Lib.cell?_alloc_some (.cells (madeCells #[.int .i64 0] n) 3) c3
        go_wp2
        go_loopw [3, 24] (fun v x wr => ∃ k : Nat, k ≤ n ∧ x = .int .i64 k ∧ Hid (wr.ownsRow w.heap.size 3 1 v k (keyCells_ii (L.take k))) ∧ Oth [] w wr) (fun _ x _ => (n - intOf x).toNat)
        case atStart => exact ⟨0, by omega, rfl, by simpa [keyCells_ii, Hid] using HO.out, (Oth.refl _ _).alloc _⟩
        case round =>
          obtain ⟨k, hk, rfl, hown, ho⟩ := hrel
          by_cases hlt : k < n
          · have t1 : (k : Int) < (n : Int) := by omega
            obtain ⟨⟨a, v⟩, hav⟩ : ∃ p, L[k]? = some p := ⟨_, List.getElem?_eq_getElem (by have := HN.out; omega)⟩
            have e1 : wr.cell? ⟨g, k * 2, none⟩ = some (Value.int .i64 a) := ho.cell (HR.out.cell (ecs_key L k a v hav)) (by simp)
            have e2 : wr.cell? ⟨g, k * 2 + 1, none⟩ = some (Value.int .i64 v) := ho.cell (HR.out.cell (ecs_val L k a v hav)) (by simp)
            have HAV := Lib.hid hav
            clear hav
            have hsz := ho.size
            go_wp2_with (at_builtin; refine wpList_append_own _ rfl _ _ 22 rfl w.heap.size 3 i0 _ 1 8 Try.underlying22 hi hz0 hz1 hz2 rfl (by decide) _ _ _ rfl ((hown.out.alloc _).alloc _) ⟨wr.heap.size + 1, 0, none⟩ 1 1 [(Value.int .i64 a)] rfl rfl ?c1 ?c2 ?c3 ?c4 ?c5 ?_)
            case c1 =>
              intro j u hu
              match j with
              | 0 => simp at hu; subst hu; rw [Addr.add_lit]; exact (World.cell?_alloc_at _ _ (wr.heap.size + 1) 0 (by simp))
              | j + 1 => simp at hu
            case c2 => intro u hu; simp at hu; subst hu; rfl
            case c3 => unfold maxLen; omega
            case c4 => omega
            case c5 => simp; omega
            intro v' w1 hown1 hgrow1 _
            have ho1 : Oth [] w w1 := ((ho.alloc _).alloc _).grown hgrow1 (fun k hk => by have := hown.out.lt k hk; exact .inr this.1)
            have HO1 : Hid (w1.ownsRow w.heap.size 3 1 v' (k + 1) (keyCells_ii (L.take (k + 1)))) := by
              have : keyCells_ii (L.take (k + 1)) = keyCells_ii (L.take k) ++ [(Value.int .i64 a)] := by
                unfold keyCells_ii
                rw [List.take_add_one, HAV.out]; simp
              rw [this]; exact hown1
            clear hown1 hgrow1 hown e1 e2
            go_wp2
            go_roundw
            case rel => exact ⟨k + 1, by omega, by go_num, HO1, ho1⟩
            case measure => simp [intOf]; omega
          · obtain rfl : k = n := by omega
            have t1 : ¬ (k : Int) < (k : Int) := by omega
            have HO2 : Hid (wr.ownsRow w.heap.size 3 1 u3 k (keyCells_ii L)) := by
              have := hown.out
              rw [List.take_of_length_le (by have := HN.out; omega)] at this
              exact this
            clear hown
            go_wp2
            go_roundw
            case rel => exact .inr ⟨by go_num, HO2, ho⟩
            case measure => simp [intOf]
      · go_wp2
        go_ret
        exact ⟨_, rfl, hown.out, ho⟩
end Go.Proofs.Ytbjfojdhdjehpaa
