/- Entries as cells; where a key lies in a sorted list; the walks of cmp.Compare. No condition. -/
import Derived.Test.YtbjfojdhdjehpaaTa
namespace Go.Proofs.Ytbjfojdhdjehpaa
open Go.RowKit
set_option linter.unusedVariables false

/-- Entries as cells. -/
def ecs {α : Type} (kv : Int → Value) (vv : α → Value) : List (Int × α) → List Value
  | [] => []
  | (k, v) :: r => kv k :: vv v :: ecs kv vv r

section
variable {α : Type} {kv : Int → Value} {vv : α → Value}
theorem ecs_length (L : List (Int × α)) : (ecs kv vv L).length = L.length * 2 := by
  induction L with
  | nil => rfl
  | cons x r ih => obtain ⟨k, a⟩ := x; simp only [ecs, List.length_cons, ih]; omega
theorem ecs_append (l m : List (Int × α)) : ecs kv vv (l ++ m) = ecs kv vv l ++ ecs kv vv m := by
  induction l with
  | nil => rfl
  | cons x r ih => obtain ⟨k, a⟩ := x; simp [ecs, ih]
theorem ecs_key : ∀ (L : List (Int × α)) (i : Nat) (k : Int) (v : α), L[i]? = some (k, v) → (ecs kv vv L)[i * 2]? = some (kv k)
  | (k', v') :: r, 0, k, v, h => by simp at h; simp [ecs, h.1]
  | (k', v') :: r, i + 1, k, v, h => by
    rw [show (i + 1) * 2 = i * 2 + 2 by omega]
    simp only [ecs, List.getElem?_cons_succ]
    exact ecs_key r i k v (by simpa using h)
theorem ecs_val : ∀ (L : List (Int × α)) (i : Nat) (k : Int) (v : α), L[i]? = some (k, v) → (ecs kv vv L)[i * 2 + 1]? = some (vv v)
  | (k', v') :: r, 0, k, v, h => by simp at h; simp [ecs, h.2]
  | (k', v') :: r, i + 1, k, v, h => by
    rw [show (i + 1) * 2 + 1 = i * 2 + 1 + 2 by omega]
    simp only [ecs, List.getElem?_cons_succ]
    exact ecs_val r i k v (by simpa using h)
theorem ecs_take (L : List (Int × α)) (i : Nat) : (ecs kv vv L).take (i * 2) = ecs kv vv (L.take i) := by
  induction L generalizing i with
  | nil => simp [ecs]
  | cons x r ih =>
    obtain ⟨k, a⟩ := x
    cases i with
    | zero => simp [ecs]
    | succ i => rw [show (i + 1) * 2 = i * 2 + 2 by omega]; simp [ecs, ih]
theorem ecs_drop (L : List (Int × α)) (i : Nat) : (ecs kv vv L).drop (i * 2) = ecs kv vv (L.drop i) := by
  induction L generalizing i with
  | nil => simp [ecs]
  | cons x r ih =>
    obtain ⟨k, a⟩ := x
    cases i with
    | zero => simp [ecs]
    | succ i => rw [show (i + 1) * 2 = i * 2 + 2 by omega]; simp [ecs, ih]
theorem ecs_ins (L : List (Int × α)) (i : Nat) (k : Int) (v : α) : insAt (ecs kv vv L) (i * 2) (kv k) (vv v) = ecs kv vv (L.take i ++ (k, v) :: L.drop i) := by
  unfold insAt
  rw [ecs_take, ecs_drop, ecs_append]; rfl
theorem ecs_one (hk : ∀ k, (kv k).oneCell' = true) (hv : ∀ v, (vv v).oneCell' = true) (L : List (Int × α)) : ∀ u ∈ ecs kv vv L, u.oneCell' = true := by
  induction L with
  | nil => intro u hu; simp [ecs] at hu
  | cons x r ih =>
    obtain ⟨k, a⟩ := x
    intro u hu
    simp only [ecs, List.mem_cons] at hu
    rcases hu with rfl | rfl | hu
    · exact hk k
    · exact hv a
    · exact ih u hu

/-- The keys rise. -/
def Srt (L : List (Int × α)) : Prop := L.Pairwise (fun a b => a.1 < b.1)
/-- Where a key lies or would lie. -/
def idx (k : Int) (L : List (Int × α)) : Nat := L.countP (fun p => decide (p.1 < k))
/-- Is it a key? -/
def hasK (k : Int) (L : List (Int × α)) : Bool := match L[idx k L]? with | some p => decide (p.1 = k) | none => false

theorem idx_le (k : Int) (L : List (Int × α)) : idx k L ≤ L.length := List.countP_le_length
theorem idx_nil (k : Int) : idx k ([] : List (Int × α)) = 0 := rfl

theorem Srt.lt {L : List (Int × α)} (h : Srt L) {i j : Nat} {p q : Int × α} (hi : L[i]? = some p) (hj : L[j]? = some q) (hij : i < j) : p.1 < q.1 := by
  obtain ⟨h1, rfl⟩ := List.getElem?_eq_some_iff.1 hi
  obtain ⟨h2, rfl⟩ := List.getElem?_eq_some_iff.1 hj
  exact List.pairwise_iff_getElem.1 h i j h1 h2 hij

theorem count_edge {α : Type} (p : α → Bool) : ∀ (l : List α) (i : Nat), i ≤ l.length → (∀ t x, t < i → l[t]? = some x → p x = true) → (∀ t x, i ≤ t → l[t]? = some x → p x = false) → l.countP p = i
  | [], i, hi, _, _ => by simp at hi; simp [hi]
  | a :: r, 0, _, _, h2 => by
    rw [List.countP_eq_zero]
    intro x hx
    obtain ⟨t, ht, rfl⟩ := List.getElem_of_mem hx
    simp [h2 t _ (Nat.zero_le _) (List.getElem?_eq_getElem ht)]
  | a :: r, i + 1, hi, h1, h2 => by
    have ha : p a = true := h1 0 a (Nat.succ_pos _) rfl
    rw [List.countP_cons_of_pos ha, count_edge p r i (by simpa using hi) (fun t x ht hx => h1 (t + 1) x (by omega) (by simpa using hx)) (fun t x h3 h4 => h2 (t + 1) x (by omega) (by simpa using h4))]
theorem idx_edge {k : Int} {L : List (Int × α)} {i : Nat} (hi : i ≤ L.length) (h1 : ∀ t p, t < i → L[t]? = some p → p.1 < k) (h2 : ∀ t p, i ≤ t → L[t]? = some p → k ≤ p.1) : idx k L = i :=
  count_edge _ L i hi (fun t x ht hx => decide_eq_true (h1 t x ht hx)) (fun t x ht hx => decide_eq_false (by have := h2 t x ht hx; omega))
/-- The keys ahead of the place are smaller, those from it on are not. -/
theorem idx_parts {k : Int} {L : List (Int × α)} (h : Srt L) : (∀ t p, t < idx k L → L[t]? = some p → p.1 < k) ∧ (∀ t p, idx k L ≤ t → L[t]? = some p → k ≤ p.1) := by
  induction L with
  | nil => exact ⟨fun t p _ h => by simp at h, fun t p _ h => by simp at h⟩
  | cons x r ih =>
    obtain ⟨hx, hr⟩ := List.pairwise_cons.1 h
    obtain ⟨i1, i2⟩ := ih hr
    by_cases hk : x.1 < k
    · have e : idx k (x :: r) = idx k r + 1 := List.countP_cons_of_pos (by simpa using hk)
      rw [e]
      refine ⟨fun t p ht hp => ?_, fun t p ht hp => ?_⟩
      · cases t with
        | zero => simp at hp; subst hp; exact hk
        | succ t => exact i1 t p (by omega) (by simpa using hp)
      · cases t with
        | zero => omega
        | succ t => exact i2 t p (by omega) (by simpa using hp)
    · have e : idx k (x :: r) = 0 := by
        unfold idx
        rw [List.countP_cons_of_neg (by simpa using hk), List.countP_eq_zero]
        intro p hp
        have := hx p hp
        simp; omega
      rw [e]
      refine ⟨fun t p ht _ => by omega, fun t p _ hp => ?_⟩
      cases t with
      | zero => simp at hp; subst hp; omega
      | succ t =>
        have := hx p (List.mem_of_getElem? (show r[t]? = some p by simpa using hp))
        omega
theorem hasK_iff {k : Int} {L : List (Int × α)} (h : Srt L) : hasK k L = true ↔ ∃ v, (k, v) ∈ L := by
  obtain ⟨h1, h2⟩ := idx_parts (k := k) h
  unfold hasK
  constructor
  · intro hh
    cases hq : L[idx k L]? with
    | none => rw [hq] at hh; simp at hh
    | some p =>
      rw [hq] at hh
      obtain ⟨a, b⟩ := p
      simp at hh
      subst hh
      exact ⟨b, List.mem_of_getElem? hq⟩
  · rintro ⟨v, hv⟩
    obtain ⟨t, ht⟩ := List.mem_iff_getElem?.1 hv
    have e : idx k L = t := by
      refine idx_edge (by have := (List.getElem?_eq_some_iff.1 ht).1; omega) (fun s p hs hp => h.lt hp ht hs) (fun s p hs hp => ?_)
      rcases Nat.lt_or_ge t s with h3 | h3
      · have := h.lt ht hp h3; omega
      · obtain rfl : s = t := by omega
        rw [ht] at hp; cases hp; exact Int.le_refl _
    rw [e, ht]; simp
end

def cmpI (a b : Int) : Int := if a < b then -1 else if b < a then 1 else 0
theorem cmpI_neg {a b : Int} : cmpI a b < 0 ↔ a < b := by 
  unfold cmpI; repeat' split
  all_goals omega
theorem cmpI_zero {a b : Int} : cmpI a b = 0 ↔ a = b := by 
  unfold cmpI; repeat' split
  all_goals omega
theorem cmpI_pos {a b : Int} : 0 < cmpI a b ↔ b < a := by 
  unfold cmpI; repeat' split
  all_goals omega

theorem cmp_eq (a k : Int) : (cmpI a k == 0) = decide (a = k) := by
  by_cases h : a = k
  · rw [cmpI_zero.2 h, decide_eq_true h]; rfl
  · rw [decide_eq_false h]
    have : ¬ cmpI a k = 0 := fun h' => h (cmpI_zero.1 h')
    simpa using this
theorem cmp_gt (a k : Int) : decide (0 < cmpI a k) = decide (k < a) := by
  by_cases h : k < a
  · rw [decide_eq_true h, decide_eq_true (cmpI_pos.2 h)]
  · rw [decide_eq_false h, decide_eq_false (fun h' => h (cmpI_pos.1 h'))]

/-- Two strings: key 0 is a, key 1 is b. -/
def sb (k : Int) : ByteArray := ⟨#[if k = 0 then 97 else 98]⟩
theorem sb_list (k : Int) : (sb k).toList = [if k = 0 then 97 else 98] := by
  unfold sb; rw [ByteArray.toList_eq]
def okS (k : Int) : Prop := k = 0 ∨ k = 1
def okI (_ : Int) : Prop := True

set_option maxHeartbeats 400000 in
theorem cmp_i (a b : Int) (w : World) (ha : okI a) (hb : okI b) : Calls Try.prog 44 #[.int .i64 a, .int .i64 b] w fun e w' => e = .returned (.int .i64 (cmpI a b)) ∧ w = w' := by
  have hn : ∀ (a : Int) (w : World), Calls Try.prog 67 #[.int .i64 a] w fun e w' => e = .returned (.bool false) ∧ w = w' := fun a w => by
    go_enter Try.func67, Try.ntmps67
    go_wp2
    go_ret
    exact ⟨rfl, rfl⟩
  rcases Int.lt_trichotomy a b with h | h | h
  · have e : cmpI a b = -1 := by unfold cmpI; rw [if_pos h]
    rw [e]
    clear e
    go_enter Try.func44, Try.ntmps44
    go_wp2_with (go_at_call 67; refine (hn _ _).mono ?_; rintro e w' ⟨rfl, rfl⟩)
    go_ret
    exact ⟨rfl, rfl⟩
  · subst h
    have e : cmpI a a = 0 := by unfold cmpI; rw [if_neg (by omega), if_neg (by omega)]
    rw [e]
    clear e
    go_enter Try.func44, Try.ntmps44
    go_wp2_with (go_at_call 67; refine (hn _ _).mono ?_; rintro e w' ⟨rfl, rfl⟩)
    go_ret
    exact ⟨rfl, rfl⟩
  · have e : cmpI a b = 1 := by unfold cmpI; rw [if_neg (by omega), if_pos h]
    have h2 : ¬ a < b := by omega
    rw [e]
    clear e
    go_enter Try.func44, Try.ntmps44
    go_wp2_with (go_at_call 67; refine (hn _ _).mono ?_; rintro e w' ⟨rfl, rfl⟩)
    go_ret
    exact ⟨rfl, rfl⟩

@[go_sem] theorem binOp_string_gtr_t (t : TypeId) (a b : ByteArray) : binOp .gtr t (.string a) (.string b) = pure (.bool !(Op.bytesLess a.toList b.toList || a.toList == b.toList)) := by simp [binOp, Op.stringOp]

set_option maxHeartbeats 400000 in
theorem cmp_s (a b : Int) (w : World) (ha : okS a) (hb : okS b) : Calls Try.prog 60 #[.string (sb a), .string (sb b)] w fun e w' => e = .returned (.int .i64 (cmpI a b)) ∧ w = w' := by
  have hn : ∀ (a : ByteArray) (w : World), Calls Try.prog 74 #[.string a] w fun e w' => e = .returned (.bool false) ∧ w = w' := fun a w => by
    go_enter Try.func74, Try.ntmps74
    go_wp2
    go_ret
    exact ⟨by simp, rfl⟩
  rcases ha with rfl | rfl <;> rcases hb with rfl | rfl
  · have l1 : Op.bytesLess (sb 0).toList (sb 0).toList = false := by simp only [sb_list]; decide
    have l2 : ((sb 0).toList == (sb 0).toList) = true := by simp
    go_enter Try.func60, Try.ntmps60
    go_wp2_with (go_at_call 74; refine (hn _ _).mono ?_; rintro e w' ⟨rfl, rfl⟩)
    go_ret
    exact ⟨rfl, rfl⟩
  · have l1 : Op.bytesLess (sb 0).toList (sb 1).toList = true := by simp only [sb_list]; decide
    go_enter Try.func60, Try.ntmps60
    go_wp2_with (go_at_call 74; refine (hn _ _).mono ?_; rintro e w' ⟨rfl, rfl⟩)
    go_ret
    exact ⟨rfl, rfl⟩
  · have l1 : Op.bytesLess (sb 1).toList (sb 0).toList = false := by simp only [sb_list]; decide
    have l2 : ((sb 1).toList == (sb 0).toList) = false := by simp only [sb_list]; decide
    go_enter Try.func60, Try.ntmps60
    go_wp2_with (go_at_call 74; refine (hn _ _).mono ?_; rintro e w' ⟨rfl, rfl⟩)
    go_ret
    exact ⟨rfl, rfl⟩
  · have l1 : Op.bytesLess (sb 1).toList (sb 1).toList = false := by simp only [sb_list]; decide
    have l2 : ((sb 1).toList == (sb 1).toList) = true := by simp
    go_enter Try.func60, Try.ntmps60
    go_wp2_with (go_at_call 74; refine (hn _ _).mono ?_; rintro e w' ⟨rfl, rfl⟩)
    go_ret
    exact ⟨rfl, rfl⟩
end Go.Proofs.Ytbjfojdhdjehpaa
