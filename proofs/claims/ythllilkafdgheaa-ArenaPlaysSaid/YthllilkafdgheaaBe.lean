/- The walks of plain and same. Condition: the arguments read as lists. -/
import Derived.Test.YthllilkafdgheaaBd
namespace Go.Proofs.Ythllilkafdgheaa
open Go.RowKit
set_option linter.unusedVariables false
set_option linter.unusedSimpArgs false

theorem Try.info2 : (Try.prog.info? 2).map (fun i => (i.zero, i.size, i.bytes)) = some (some (.int .i64 0), 1, 8) := by kernel_rfl
/-- Numbers as cells. -/
def ics (l : List Int) : List Value := l.map (Value.int .i64)
theorem ics_take {l : List Int} {i : Nat} {k : Int} (h : l[i]? = some k) : ics (l.take (i + 1)) = ics (l.take i) ++ [.int .i64 k] := by
  unfold ics; rw [List.take_add_one, h]; simp

set_option maxHeartbeats 4000000 in
set_option maxRecDepth 100000 in
theorem plain_any (base : Option Addr) (n c : Nat) (l : List Int) (w : World) (hR : ReadsI base n l w) (h1 : n ≤ 1000000) :
    Calls Try.prog 17 #[.slice base n c] w fun e w' => ∃ v, e = .returned v ∧ w'.ownsRow w.heap.size 2 1 v n (ics l) ∧ Oth [] w w' := by
  obtain ⟨i0, hi, hz0, hz1, hz2⟩ := info_parts Try.info2
  have HR := Lib.hid hR
  clear hR
  go_enter Try.func17, Try.ntmps17
  go_wp2_with fail
  go_loopw [3, 8] (fun v x wr => ∃ i : Nat, i ≤ n ∧ x = .int .i64 i ∧ Hid (wr.ownsRow w.heap.size 2 1 v i (ics (l.take i))) ∧ Oth [] w wr) (fun _ x _ => (n - intOf x).toNat)
  case atStart => exact ⟨0, by omega, rfl, ⟨rfl, .inl ⟨rfl, rfl⟩⟩, Oth.refl _ _⟩
  case round =>
    obtain ⟨i, hin, rfl, hown, ho⟩ := hrel
    by_cases hlt : i < n
    · have t1 : (i : Int) < (n : Int) := by omega
      obtain ⟨q, hq⟩ : ∃ q, l[i]? = some q := ⟨_, List.getElem?_eq_getElem (by have := HR.out.1; omega)⟩
      obtain ⟨g, off, rfl, hcell⟩ := HR.out.2.2.2 i q hq
      have hcell2 := ho.cell hcell (by simp)
      have HQ := Lib.hid hq
      have hsz := ho.size
      clear hcell hq
      go_wp2_with (at_builtin; refine wpList_append_own _ rfl _ _ 40 rfl w.heap.size 2 i0 _ 1 8 Try.underlying40 hi hz0 hz1 hz2 rfl (by decide) _ _ _ rfl (hown.out.alloc _) ⟨wr.heap.size, 0, none⟩ 1 1 [.int .i64 q] rfl rfl ?c1 ?c2 ?c3 ?c4 ?c5 ?_)
      case c1 =>
        intro j u hu
        match j with
        | 0 => simp at hu; subst hu; rw [Addr.add_lit]; exact (World.cell?_alloc_at _ _ wr.heap.size 0 rfl)
        | j + 1 => simp at hu
      case c2 => intro u hu; simp at hu; subst hu; rfl
      case c3 => unfold maxLen; omega
      case c4 => omega
      case c5 => simp; omega
      intro v' w1 hown1 hgrow1 _
      have ho1 : Oth [] w w1 := (ho.alloc _).grown hgrow1 (fun k hk => by have := hown.out.lt k hk; exact .inr this.1)
      have HO1 : Hid (w1.ownsRow w.heap.size 2 1 v' (i + 1) (ics (l.take (i + 1)))) := by
        rw [ics_take HQ.out]; exact hown1
      clear hown1 hgrow1 hown hcell2
      go_wp2_with fail
      go_roundw
      case rel => exact ⟨i + 1, by omega, by go_num, HO1, ho1⟩
      case measure => simp [intOf]; omega
    · obtain rfl : i = n := by omega
      have t1 : ¬ (i : Int) < (i : Int) := by omega
      rw [List.take_of_length_le (by have := HR.out.1; omega)] at hown
      go_wp2
      go_ret
      exact ⟨_, rfl, hown.out, ho⟩

set_option maxHeartbeats 4000000 in
set_option maxRecDepth 100000 in
theorem same_any (b1 : Option Addr) (b2 : Option Addr) (n c1 c2 : Nat) (l : List Int) (w : World) (hR : ReadsI b1 n l w) (hR2 : ReadsI b2 n l w) (h1 : n ≤ 1000000) :
    Calls Try.prog 16 #[.slice b1 n c1, .slice b2 n c2] w fun e w' => e = .returned (.bool true) ∧ Oth [] w w' := by
  have HR := Lib.hid hR
  have HR2 := Lib.hid hR2
  clear hR hR2
  go_enter Try.func16, Try.ntmps16
  go_wp2_with fail
  go_loopw [13] (fun x wr => ∃ i : Nat, i ≤ n ∧ x = .int .i64 i ∧ Oth [] w wr) (fun x _ => (n - intOf x).toNat)
  case atStart => exact ⟨0, by omega, rfl, Oth.refl _ _⟩
  case round =>
    obtain ⟨i, hin, rfl, ho⟩ := hrel
    by_cases hlt : i < n
    · have t1 : (i : Int) < (n : Int) := by omega
      have t2 : ¬ (i : Int) < 0 := by omega
      obtain ⟨q, hq⟩ : ∃ q, l[i]? = some q := ⟨_, List.getElem?_eq_getElem (by have := HR.out.1; omega)⟩
      obtain ⟨g, off, rfl, hcell⟩ := HR.out.2.2.2 i q hq
      obtain ⟨g2, off2, rfl, hcell2⟩ := HR2.out.2.2.2 i q hq
      have d1 := ho.cell hcell (by simp)
      have d2 := ho.cell hcell2 (by simp)
      clear hcell hcell2 hq
      go_wp2_with fail
      go_quiet (fail)
      go_wp2_with fail
      go_roundw
      case rel => exact ⟨i + 1, by omega, by go_num, ho.drewN _⟩
      case measure => simp [intOf]; omega
    · obtain rfl : i = n := by omega
      have t1 : ¬ (i : Int) < (i : Int) := by omega
      go_wp2
      go_ret
      exact ⟨rfl, ho⟩
end Go.Proofs.Ythllilkafdgheaa
