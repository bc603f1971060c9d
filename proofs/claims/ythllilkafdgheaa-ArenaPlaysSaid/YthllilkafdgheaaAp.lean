/- The invariant behind Free. No condition. -/
import Derived.Test.YthllilkafdgheaaAo
namespace Go.Proofs.Ythllilkafdgheaa
open Go.RowKit
set_option linter.unusedVariables false
set_option linter.unusedSimpArgs false

theorem pairwise_del {α : Type} {R : α → α → Prop} {L : List α} (h : L.Pairwise R) (j : Nat) : (L.take j ++ L.drop (j + 1)).Pairwise R := by
  refine h.sublist ?_
  have : L.drop (j + 1) = (L.drop j).drop 1 := by rw [List.drop_drop]
  rw [this]
  have h2 := (List.Sublist.refl (L.take j)).append (List.drop_sublist 1 (L.drop j))
  rwa [List.take_append_drop] at h2
theorem sumN_del {L : List Blk} {j : Nat} {x : Blk} (hx : L[j]? = some x) : sumN L = sumN (L.take j ++ L.drop (j + 1)) + x.n := by
  have h1 : L.drop j = x :: L.drop (j + 1) := by
    obtain ⟨h2, h3⟩ := List.getElem?_eq_some_iff.1 hx
    rw [List.drop_eq_getElem_cons h2, h3]
  have : sumN L = sumN (L.take j) + sumN (L.drop j) := by rw [← sumN_append, List.take_append_drop]
  rw [this, h1, sumN_append, sumN_cons]; omega
theorem del_get_lt {α : Type} {L : List α} {i j : Nat} (hj : j < L.length) (h : i < j) : (L.take j ++ L.drop (j + 1))[i]? = L[i]? := by
  rw [List.getElem?_append_left (by simp; omega), List.getElem?_take, if_pos h]
theorem E_del {L : List Blk} {i j : Nat} (hj : j < L.length) (h : i ≤ j) : E (L.take j ++ L.drop (j + 1)) i = E L i := by
  cases i with
  | zero => rfl
  | succ m => simp only [E]; rw [del_get_lt hj (by omega)]
theorem freed_good {s : St} {j : Nat} {x : Blk} (hg : Good s) (hx : s.L[j]? = some x) : Good (freed s j x) := by
  have hjl := (List.getElem?_eq_some_iff.1 hx).1
  have hlen : (s.L.take j ++ s.L.drop (j + 1)).length = s.L.length - 1 := by simp; omega
  have hsum := sumN_del hx
  have hlv := hg.live
  refine ⟨pairwise_del hg.srt j, fun b hb => hg.blk b ((mem_del hg.hnd hx b).1 hb).2, pairwise_del hg.hnd j, hg.high, hg.cap, ?_, hg.nxt, ?_, ?_, ?_, fun i y hi hy => ?_, hg.mv⟩
  · have := hg.cntn; simp only [freed]; omega
  · simp only [freed]; omega
  · simp only [freed]; omega
  · have := hg.peak; simp only [freed]; omega
  · simp only [freed] at hi hy ⊢
    rw [del_get_lt hjl (by omega)] at hy
    rw [E_del hjl (by omega)]
    exact hg.tight i y (by omega) hy
end Go.Proofs.Ythllilkafdgheaa
