/- Plain: a shuffle has each item once; which draws matter. -/
import Derived.Test.YtminoelijdpmeaaOc
import Derived.Test.YtminoelijdpmeaaPa
namespace Go.Proofs.Ytminoelijdpmeaa
set_option linter.unusedVariables false

theorem swapL_count (L : List Int) (i j : Nat) (hi : i < L.length) (hj : j < L.length) (x : Int) : (swapL L i j).count x = L.count x := by
  unfold swapL
  rw [List.getD_eq_getElem?_getD, List.getD_eq_getElem?_getD, List.getElem?_eq_getElem hi, List.getElem?_eq_getElem hj]
  exact (List.set_set_perm hi hj).count_eq x

theorem iota_whole (n : Nat) (D : List Int) : wholeTo (mixSt n D 0) n := by
  have hl : (mixSt n D 0).length = n := mixSt_length n D 0
  have : wholeTo (mixSt n D 0) (mixSt n D 0).length := by
    apply whole_of_fine
    rw [hl]
    constructor
    · intro x hx
      simp only [mixSt, List.mem_map, List.mem_range] at hx
      obtain ⟨t, ht, rfl⟩ := hx
      simp; omega
    · simp only [mixSt]
      rw [List.nodup_iff_pairwise_ne, List.pairwise_iff_getElem]
      intro a b ha hb hab
      simp; omega
  rwa [hl] at this

theorem mixSt_whole (n : Nat) (D : List Int) (j : Nat) (hj : j + 1 ≤ n) : wholeTo (mixSt n D j) n := by
  induction j with
  | zero => exact iota_whole n D
  | succ j ih =>
    intro i hi
    have h1 : (D.getD j 0).toNat % (n - j) < n - j := Nat.mod_lt _ (by omega)
    rw [mixSt, swapL_count _ _ _ (by rw [mixSt_length]; omega) (by rw [mixSt_length]; omega)]
    exact ih (by omega) i hi
theorem mixL_whole (n : Nat) (D : List Int) : wholeB (mixL n D) = true := by
  rw [wholeB_t, mixL_length]
  rcases Nat.eq_zero_or_pos n with rfl | h
  · exact fun i hi => by omega
  · exact mixSt_whole n D _ (by omega)

/-- Only the remainders of the draws matter. -/
theorem mixSt_congr (n : Nat) (D E : List Int) (j : Nat) (h : ∀ k, k < j → (D.getD k 0).toNat % (n - k) = (E.getD k 0).toNat % (n - k)) : mixSt n D j = mixSt n E j := by
  induction j with
  | zero => rfl
  | succ j ih => rw [mixSt, mixSt, ih (fun k hk => h k (by omega)), h j (by omega)]
theorem mixL_congr (n : Nat) (D E : List Int) (h : ∀ k, k + 1 < n → (D.getD k 0).toNat % (n - k) = (E.getD k 0).toNat % (n - k)) : mixL n D = mixL n E :=
  mixSt_congr n D E _ (fun k hk => h k (by omega))
end Go.Proofs.Ytminoelijdpmeaa
