/- Plain facts: a list of pairs in any order against a sorted list of entries; Set, Del, Find, the least. No condition. -/
import Derived.Test.YtbjfojdhdjehpaaTk
import Derived.Test.YtbjfojdhdjehpaaTm
import Derived.Test.YtbjfojdhdjehpaaTn
namespace Go.Proofs.Ytbjfojdhdjehpaa
set_option linter.unusedVariables false

/-- The pairs x are the entries L in some order. -/
def Like (x L : List (Int × ByteArray)) : Prop := Srt L ∧ x.Perm L

/-- The list with a key's value. -/
def setP (k : Int) (s : ByteArray) (x : List (Int × ByteArray)) : List (Int × ByteArray) := delP k x ++ [(k, s)]

theorem delP_above {k : Int} {r : List (Int × ByteArray)} (h : ∀ p ∈ r, k < p.1) : delP k r = r := by
  unfold delP
  rw [List.filter_eq_self]
  intro p hp
  have := h p hp
  simp; omega
theorem delP_cons (k : Int) (a : Int × ByteArray) (r : List (Int × ByteArray)) : delP k (a :: r) = if a.1 = k then delP k r else a :: delP k r := by
  unfold delP
  by_cases h : a.1 = k <;> simp [h]
theorem put_perm {k : Int} {v : ByteArray} {L : List (Int × ByteArray)} (hs : Srt L) : (putK k v L).Perm (delP k L ++ [(k, v)]) := by
  induction L with
  | nil => rw [putK_nil]; exact List.Perm.refl _
  | cons a r ih =>
    obtain ⟨hx, hr⟩ := List.pairwise_cons.1 hs
    rcases Int.lt_trichotomy a.1 k with h | h | h
    · rw [putK_lt h, delP_cons, if_neg (by omega)]
      exact (ih hr).cons a
    · rw [putK_eq hs h, delP_cons, if_pos h, delP_above (fun p hp => by have := hx p hp; omega)]
      exact (List.perm_append_singleton _ _).symm
    · rw [putK_gt hs h, delP_cons, if_neg (by omega), delP_above (fun p hp => by have := hx p hp; omega)]
      exact (List.perm_append_singleton _ _).symm
theorem out_eq {k : Int} {L : List (Int × ByteArray)} (hs : Srt L) : outK k L = delP k L := by
  induction L with
  | nil => unfold outK hasK; simp [delP]
  | cons a r ih =>
    obtain ⟨hx, hr⟩ := List.pairwise_cons.1 hs
    rcases Int.lt_trichotomy a.1 k with h | h | h
    · rw [delP_cons, if_neg (by omega), ← ih hr]
      unfold outK
      rw [hasK_lt h, idx_lt h]
      split <;> simp
    · rw [delP_cons, if_pos h, delP_above (fun p hp => by have := hx p hp; omega)]
      unfold outK
      rw [hasK_ge hs (by omega), idx_ge hs (by omega)]
      simp [h]
    · rw [delP_cons, if_neg (by omega), delP_above (fun p hp => by have := hx p hp; omega)]
      unfold outK
      rw [hasK_ge hs (by omega), idx_ge hs (by omega)]
      have : ¬ a.1 = k := by omega
      simp [this]
theorem Srt.filter {L : List (Int × ByteArray)} (hs : Srt L) (k : Int) : Srt (delP k L) := hs.sublist List.filter_sublist
theorem Like.nil : Like [] [] := ⟨List.Pairwise.nil, List.Perm.refl _⟩
theorem Like.put {x L : List (Int × ByteArray)} (h : Like x L) (k : Int) (v : ByteArray) : Like (setP k v x) (putK k v L) :=
  ⟨srt_putK h.1, (((h.2.filter _).append_right _).trans (put_perm h.1).symm)⟩
theorem Like.del {x L : List (Int × ByteArray)} (h : Like x L) (k : Int) : Like (delP k x) (outK k L) := by
  rw [out_eq h.1]
  exact ⟨h.1.filter k, h.2.filter _⟩
theorem Like.len {x L : List (Int × ByteArray)} (h : Like x L) : x.length = L.length := h.2.length_eq
theorem Like.mem {x L : List (Int × ByteArray)} (h : Like x L) (p : Int × ByteArray) : p ∈ x ↔ p ∈ L := h.2.mem_iff
theorem Like.has {x L : List (Int × ByteArray)} (h : Like x L) {k : Int} {s : ByteArray} {i : Nat} (hi : x[i]? = some (k, s)) : hasK k L = true ∧ getK ⟨#[]⟩ k L = s :=
  getK_mem h.1 ((h.mem _).1 (List.mem_of_getElem? hi))
theorem Like.hasnt {x L : List (Int × ByteArray)} (h : Like x L) {k : Int} (hi : ∀ p ∈ x, p.1 ≠ k) : hasK k L = false ∧ getK ⟨#[]⟩ k L = ⟨#[]⟩ := by
  have h1 : hasK k L = false := by
    cases hq : hasK k L with
    | false => rfl
    | true =>
      obtain ⟨v, hv⟩ := (hasK_iff h.1).1 hq
      exact absurd rfl (hi _ ((h.mem _).2 hv))
  exact ⟨h1, getK_no h1⟩
/-- One whose key is none greater is the head. -/
theorem Like.least {x : List (Int × ByteArray)} {a : Int × ByteArray} {r : List (Int × ByteArray)} (h : Like x (a :: r)) {i : Nat} {p : Int × ByteArray} (hi : x[i]? = some p) (hm : ∀ q ∈ x, p.1 ≤ q.1) : p = a := by
  obtain ⟨hx, hr⟩ := List.pairwise_cons.1 h.1
  have h1 := (h.mem p).1 (List.mem_of_getElem? hi)
  have h2 := hm a ((h.mem a).2 (by simp))
  rcases List.mem_cons.1 h1 with h3 | h3
  · exact h3
  · have := hx p h3; omega
theorem Like.tail {x : List (Int × ByteArray)} {a : Int × ByteArray} {r : List (Int × ByteArray)} (h : Like x (a :: r)) : Like (delP a.1 x) r := by
  obtain ⟨hx, hr⟩ := List.pairwise_cons.1 h.1
  refine ⟨hr, ?_⟩
  have : delP a.1 (a :: r) = r := by rw [delP_cons, if_pos rfl, delP_above (fun p hp => hx p hp)]
  rw [← this]
  exact h.2.filter _
theorem len_delP (k : Int) (x : List (Int × ByteArray)) : (delP k x).length ≤ x.length := List.length_filter_le _ _
theorem len_setP (k : Int) (s : ByteArray) (x : List (Int × ByteArray)) : (setP k s x).length ≤ x.length + 1 := by
  have := len_delP k x
  unfold setP; simp; omega
theorem outK_head {a : Int × ByteArray} {r : List (Int × ByteArray)} (hs : Srt (a :: r)) : outK a.1 (a :: r) = r := by
  obtain ⟨hx, hr⟩ := List.pairwise_cons.1 hs
  rw [out_eq hs, delP_cons, if_pos rfl, delP_above (fun p hp => hx p hp)]
end Go.Proofs.Ytbjfojdhdjehpaa
