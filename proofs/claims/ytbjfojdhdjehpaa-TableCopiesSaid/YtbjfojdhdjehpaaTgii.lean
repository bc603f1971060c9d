/- The walk of Count. Condition: at most 200 elements. -/
import Derived.Test.YtbjfojdhdjehpaaTeii
import Derived.Test.YtbjfojdhdjehpaaTm
namespace Go.Proofs.Ytbjfojdhdjehpaa
open Go.RowKit
set_option linter.unusedVariables false
set_option linter.unusedSimpArgs false

/-- A table of blocks that are new since w. -/
def NewTab_ii (w : World) (p : Nat) (L : List (Int × Int)) (w' : World) : Prop := ∃ S, Tab_ii p S L w' ∧ Oth [] w w' ∧ ∀ k, k ∈ S → w.heap.size ≤ k

set_option maxHeartbeats 2000000 in
set_option maxRecDepth 10000 in
theorem Count_any_ii (base : Option Addr) (n cap : Nat) (l : List Int) (w : World) (hn : n = l.length) (hn2 : n ≤ 200) (hc : ∀ i k, l[i]? = some k → ∃ g off, base = some ⟨g, off, none⟩ ∧ w.cell? ⟨g, off + i, none⟩ = some (Value.int .i64 k)) (hok : ∀ k, k ∈ l → okI k) :
    Calls Try.prog 8 #[.slice base n cap] w fun e w' => ∃ p, e = .returned (.pointer (some ⟨p, 0, none⟩)) ∧ NewTab_ii w p (cnt l) w' := by
  have h0 : NewTab_ii w w.heap.size (cnt (l.take 0)) (w.alloc (.cells #[.slice none 0 0, .int .i64 0] 63)) :=
    ⟨[w.heap.size], .inl ⟨by simp [cnt], rfl, none, 0, heap_alloc_new _ _⟩, (Oth.refl _ _).alloc _, by simp⟩
  have H0 := Lib.hid h0
  have HN := Lib.hid hn
  have HC := Lib.hid hc
  have HOK := Lib.hid hok
  clear h0 hn hc hok
  go_enter Try.func8, Try.ntmps8
  go_wp2
  go_loopw [12] (fun x wr => ∃ i : Nat, i ≤ n ∧ x = .int .i64 i ∧ Hid (NewTab_ii w w.heap.size (cnt (l.take i)) wr)) (fun x _ => (n - intOf x).toNat)
  case atStart => exact ⟨0, by omega, rfl, H0⟩
  case round =>
    obtain ⟨i, hi, rfl, ht⟩ := hrel
    by_cases hlt : i < n
    · have t1 : (i : Int) < (n : Int) := by omega
      obtain ⟨k, hk⟩ : ∃ k, l[i]? = some k := ⟨_, List.getElem?_eq_getElem (by have := HN.out; omega)⟩
      obtain ⟨g, off, rfl, hcell⟩ := HC.out i k hk
      obtain ⟨S, htab, ho, hS⟩ := ht.out
      have hcell2 := ho.cell hcell (by simp)
      have hq := cnt_ok (l.take i)
      have hokT : ∀ p ∈ cnt (l.take i), okI p.1 := fun p hp => HOK.out _ (List.mem_of_mem_take (hq.mem p hp))
      have hkk : okI k := HOK.out k (List.mem_of_getElem? hk)
      have hlen : (cnt (l.take i)).length ≤ 200 := by have := hq.len; rw [List.length_take] at this; omega
      have HG := Lib.hid (Get_any_ii w.heap.size S _ k wr htab hokT hkk hq.srt (by omega))
      have hsnoc : cnt (l.take (i + 1)) = putK k (getK 0 k (cnt (l.take i)) + 1) (cnt (l.take i)) := by
        rw [List.take_add_one, hk]; exact cnt_snoc _ _
      have hcb : 0 ≤ getK 0 k (cnt (l.take i)) ∧ getK 0 k (cnt (l.take i)) ≤ 200 := by
        rw [hq.get]
        have := List.count_le_length (a := k) (l := l.take i)
        rw [List.length_take] at this
        omega
      obtain ⟨T, hT⟩ : ∃ T, T = cnt (l.take i) := ⟨_, rfl⟩
      rw [← hT] at htab hokT hlen hcb hsnoc HG
      have hsT : Srt T := by rw [hT]; exact hq.srt
      obtain ⟨c, hcc⟩ : ∃ c, c = getK 0 k T := ⟨_, rfl⟩
      rw [← hcc] at hcb hsnoc HG
      obtain ⟨c1, c2⟩ := hcb
      obtain ⟨y, hy⟩ : ∃ y, y = hasK k T := ⟨_, rfl⟩
      rw [← hy] at HG
      have HSET : Hid (∀ w1, Oth [] wr w1 → Calls Try.prog 25 #[.pointer (some ⟨w.heap.size, 0, none⟩), (Value.int .i64 k), .int .i64 (c + 1)] w1 fun e w' => ∃ b, e = .returned (.bool b) ∧ NewTab_ii w w.heap.size (cnt (l.take (i + 1))) w') := fun w1 ho1 => by
        refine (Set_any_ii w.heap.size S T k (c + 1) w1 (htab.oth ho1 (by simp)) hokT hkk hsT (by omega)).mono ?_
        rintro e w2 ⟨rfl, ⟨S', h1, h2⟩, h3⟩
        refine ⟨_, rfl, S', by rw [hsnoc]; exact h1, ?_, ?_⟩
        · have e1 := ho.trans ho1 (Fr.nil _ _)
          exact e1.trans h3 (fun k hk => .inr (hS k hk))
        · intro k hk
          rcases h2 k hk with h | h
          · exact hS k h
          · have := ho1.size; have := ho.size; omega
      clear hcell ht htab ho hS hq hokT hkk hlen hsnoc hT hsT hcc hy hk
      go_wp2_with fail
      refine HG.out.mono ?_
      rintro e w1 ⟨rfl, ho1⟩
      go_wp2_with fail
      refine (HSET.out _ ho1).mono ?_
      rintro e w2 ⟨b, rfl, hnew⟩
      have HNEW := Lib.hid hnew
      clear hnew
      go_wp2_with fail
      go_roundw
      case rel => exact ⟨i + 1, by omega, by go_num, HNEW⟩
      case measure => simp [intOf]; omega
    · obtain rfl : i = n := by omega
      have t1 : ¬ (i : Int) < (i : Int) := by omega
      have HF : Hid (NewTab_ii w w.heap.size (cnt l) wr) := by
        have := ht.out
        rw [List.take_of_length_le (by have := HN.out; omega)] at this
        exact this
      clear ht
      go_wp2
      go_ret
      exact ⟨_, rfl, HF.out⟩
end Go.Proofs.Ytbjfojdhdjehpaa
