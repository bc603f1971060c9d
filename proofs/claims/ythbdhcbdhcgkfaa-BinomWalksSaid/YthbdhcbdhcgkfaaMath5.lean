/- Plain: the lower bound, carried through the acts. -/
import Derived.Test.YthbdhcbdhcgkfaaMath4
namespace Go.Proofs.Ythbdhcbdhcgkfaa
namespace LB

/-- The positions from which one may go on. -/
def SB (st : St) (z : Nat) : Bool := st.on.getD z false || decide ((z : Int) = st.pos)

theorem cn_congr {S S' : Nat → Bool} {n : Nat} (h : ∀ z, 1 ≤ z → z ≤ n → S z = S' z) : cn S n = cn S' n := by
  induction n with
  | zero => rfl
  | succ n ih => simp only [cn]; rw [ih (fun z h1 h2 => h z h1 (by omega)), h (n + 1) (by omega) (by omega)]

theorem cn_set (on : List Bool) (j n : Nat) (b : Bool) (hj : j < on.length) (h1 : 1 ≤ j) (hn : j ≤ n) (hb : on.getD j false = !b) :
    (cn (fun z => (on.set j b).getD z false) n : Int) = cn (fun z => on.getD z false) n + (if b then 1 else -1) := by
  induction n with
  | zero => omega
  | succ n ih =>
    have hg := getD_set on j (n + 1) b hj
    simp only [cn, hg]
    by_cases e : j = n + 1
    · have hc : cn (fun z => (on.set j b).getD z false) n = cn (fun z => on.getD z false) n := cn_congr fun z h1 h2 => by
        rw [getD_set _ _ _ _ hj, if_neg (by omega)]
      rw [hc]
      simp only [e, if_true]
      simp only [← e, hb]
      cases b <;> simp <;> omega
    · have := ih (by omega)
      simp only [e, if_false]
      omega

structure Inv (l s : Nat) (st : St) : Prop where
  len : st.on.length = l + 1
  on0 : st.on.getD 0 false = true
  p0 : 0 ≤ st.pos
  p1 : st.pos ≤ l
  l0 : 0 ≤ st.last
  l1 : st.last ≤ l
  cnt : (cn (fun z => st.on.getD z false) l : Int) = st.marks
  top : st.marks ≤ s
  pot : ∀ Q, Valid st.last.toNat (s + 1) 0 Q → (BM.T l s : Int) ≤ st.gos + cost (ms (SB st)) 0 Q + val st.last.toNat (s + 1) 0 Q

theorem Inv.zero (l s : Nat) : Inv l s (st0 l) := by
  have hz : ∀ z, 1 ≤ z → (st0 l).on.getD z false = false := by
    intro z hz
    obtain ⟨i, rfl⟩ : ∃ i, z = i + 1 := ⟨z - 1, by omega⟩
    simp [st0, List.getD_eq_getElem?_getD, List.getElem?_replicate]; split <;> rfl
  refine ⟨by simp [st0], by simp [st0], by simp [st0], by simp [st0], by simp [st0], by simp [st0], ?_, by simp [st0], ?_⟩
  · have : cn (fun z => (st0 l).on.getD z false) l = 0 := by
      have : ∀ n, cn (fun z => (st0 l).on.getD z false) n = 0 := by
        intro n
        induction n with
        | zero => rfl
        | succ n ih => simp only [cn, ih, hz (n + 1) (by omega)]; rfl
      exact this l
    rw [this]; rfl
  · intro Q hv
    have hl : (st0 l).last.toNat = l := by simp [st0]
    rw [hl] at hv ⊢
    have hm : ∀ n, ms (SB (st0 l)) n = 0 := by
      intro n
      rcases Nat.eq_zero_or_pos (ms (SB (st0 l)) n) with e | e
      · exact e
      · have hin := ms_in e
        generalize ms (SB (st0 l)) n = x at hin e ⊢
        unfold SB at hin
        rw [hz _ e] at hin
        simp [st0] at hin
        omega
    have := start l s Q hv _ hm
    have hg : (st0 l).gos = 0 := rfl
    omega

theorem hasB_out {l : Nat} {on : List Bool} {a : Int} (h : hasB l on a = true) : 0 ≤ a ∧ a ≤ l ∧ on.getD a.toNat false = true := by
  simp only [hasB, Bool.and_eq_true, decide_eq_true_eq] at h
  exact ⟨h.1.1, h.1.2, h.2⟩

theorem Inv.step {l s : Nat} {st st' : St} {k a : Int} (h : Inv l s st) (hs : stepW l s st k a = some st') : Inv l s st' := by
  obtain ⟨len, on0, p0, p1, l0, l1, cnt, top, pot⟩ := h
  have hpos : SB st st.pos.toNat = true := by
    unfold SB; simp only [Bool.or_eq_true, decide_eq_true_eq]; right; omega
  unfold stepW at hs
  split at hs
  · -- Go
    split at hs
    · rename_i hc
      simp only [Option.some.injEq] at hs; subst hs
      refine ⟨len, on0, by simp only; omega, hc.2, l0, l1, cnt, top, fun Q hv => ?_⟩
      have hS : ∀ z, SB { st with pos := a, gos := st.gos + 1 } z = true → SB st z = true ∨ z = st.pos.toNat + 1 := by
        intro z hz
        unfold SB at hz ⊢
        simp only [Bool.or_eq_true, decide_eq_true_eq] at hz ⊢
        rcases hz with hz | hz
        · exact .inl (.inl hz)
        · right; omega
      have h1 := cost_step (ms_step hS) (fun n hn => ms_ge hpos hn) (s + 1) 0 Q hv
      rw [if_pos (Nat.zero_le _)] at h1
      have h2 := pot Q hv
      simp only
      omega
    · cases hs
  split at hs
  · -- Mark
    split at hs
    · rename_i hc
      obtain ⟨hc1, hc2, hc3⟩ := hc
      simp only [Option.some.injEq] at hs; subst hs
      obtain ⟨j, rfl⟩ := Int.eq_ofNat_of_zero_le (show 0 ≤ a by omega)
      have hj : j ≤ l := by omega
      rw [hasB_nat hj] at hc2
      have hj0 : j ≠ 0 := by intro e; subst e; rw [on0] at hc2; cases hc2
      simp only [Int.toNat_natCast]
      refine ⟨by simp [len], ?_, p0, p1, l0, l1, ?_, by simp only; omega, fun Q hv => ?_⟩
      · rw [getD_set _ _ _ _ (by omega), if_neg hj0]; exact on0
      · have := cn_set st.on j l true (by omega) (by omega) hj (by rw [hc2]; rfl)
        simp only [if_true] at this
        simp only
        omega
      · have hS : ∀ z, SB { st with on := st.on.set j true, marks := st.marks + 1 } z = true → SB st z = true := by
          intro z hz
          unfold SB at hz ⊢
          simp only [Bool.or_eq_true, decide_eq_true_eq] at hz ⊢
          rw [getD_set _ _ _ _ (by omega)] at hz
          by_cases e : j = z
          · right; omega
          · rw [if_neg e] at hz; exact hz
        have h1 := cost_mono (ms_sub hS) 0 Q
        have h2 := pot Q hv
        simp only
        omega
    · cases hs
  split at hs
  · -- Drop
    split at hs
    · rename_i hc
      obtain ⟨hc1, hc2⟩ := hc
      simp only [Option.some.injEq] at hs; subst hs
      obtain ⟨a0, a1, a2⟩ := hasB_out hc2
      obtain ⟨j, rfl⟩ := Int.eq_ofNat_of_zero_le a0
      simp only [Int.toNat_natCast] at a2 ⊢
      refine ⟨by simp [len], ?_, p0, p1, l0, l1, ?_, by simp only; omega, fun Q hv => ?_⟩
      · rw [getD_set _ _ _ _ (by omega), if_neg (by omega)]; exact on0
      · have := cn_set st.on j l false (by omega) (by omega) (by omega) (by rw [a2]; rfl)
        simp only [Bool.false_eq_true, if_false] at this
        simp only
        omega
      · have hS : ∀ z, SB { st with on := st.on.set j false, marks := st.marks - 1 } z = true → SB st z = true := by
          intro z hz
          unfold SB at hz ⊢
          simp only [Bool.or_eq_true, decide_eq_true_eq] at hz ⊢
          rw [getD_set _ _ _ _ (by omega)] at hz
          by_cases e : j = z
          · subst e; left; exact a2
          · rw [if_neg e] at hz; exact hz
        have h1 := cost_mono (ms_sub hS) 0 Q
        have h2 := pot Q hv
        simp only
        omega
    · cases hs
  split at hs
  · -- Back
    split at hs
    · rename_i hc
      obtain ⟨hc1, hc2, hc3⟩ := hc
      simp only [Option.some.injEq] at hs; subst hs
      refine ⟨len, on0, p0, p1, by simp only; omega, by simp only; omega, cnt, top, fun Q hv => ?_⟩
      obtain ⟨a', ha'⟩ : ∃ n : Nat, st.last = (n : Int) + 1 := ⟨(st.last - 1).toNat, by omega⟩
      have e1 : st.last.toNat = a' + 1 := by omega
      have e2 : (st.last - 1).toNat = a' := by omega
      simp only [e2] at hv ⊢
      rw [e1] at pot
      have hp : st.pos.toNat = a' := by omega
      have hSB : SB { st with last := st.last - 1 } = SB st := rfl
      rw [hSB]
      rcases Nat.eq_zero_or_pos a' with h0 | h0
      · subst h0
        have hQ : Q = [] := by
          cases Q with
          | nil => rfl
          | cons q qs =>
            exfalso
            have : ∀ (R : List Nat) (b p : Nat), 0 < p → ¬ Valid 0 b p R := by
              intro R
              induction R with
              | nil => intro b p hp hv; have := hv.1; omega
              | cons r rs ih =>
                intro b p hp hv
                cases b with
                | zero => exact hv
                | succ b => exact ih b r (by have := hv.1; omega) hv.2
            exact this qs s q (by have := hv.1; omega) hv.2
        subst hQ
        have := pot [] ⟨.inl (by omega), by omega⟩
        have t1 : val (0 + 1) (s + 1) 0 [] = 0 := by show BM.T 1 s = 0; exact BM.T_one s
        rw [t1] at this
        have t2 : cost (ms (SB st)) 0 [] = 0 := rfl
        rw [t2] at this ⊢
        omega
      · rw [hp] at hpos
        have hma : ms (SB st) a' = a' := Nat.le_antisymm (ms_le _ _) (ms_ge hpos (Nat.le_refl _))
        have fin : ∀ R, Valid a' (s + 1) 0 R → R.length < s + 1 → (BM.T l s : Int) ≤ st.gos + cost (ms (SB st)) 0 R + val a' (s + 1) 0 R := by
          intro R hR hlen
          obtain ⟨v1, v2⟩ := valid_snoc (s + 1) 0 R hR (.inl h0) hlen
          have := pot _ v1
          rw [cost_snoc hma, v2] at this
          exact this
        by_cases hlen : Q.length < s + 1
        · exact fin Q hv hlen
        · have hnf : ¬ Full (ms (SB st)) 0 Q := by
            intro hf
            have hc4 : cn (SB st) (a' - 1) = cn (fun z => st.on.getD z false) (a' - 1) := cn_congr fun z h1 h2 => by
              unfold SB
              have : decide ((z : Int) = st.pos) = false := by simp; omega
              rw [this, Bool.or_false]
            have hc5 := cn_up (fun z => st.on.getD z false) (show a' - 1 ≤ l by omega)
            rcases full_len (s + 1) 0 Q hv hf with h | h
            · omega
            · subst h; simp at hlen
          obtain ⟨Q', q1, q2, q3⟩ := reduce (s + 1) 0 Q hv hnf
          have h5 := valid_len (s + 1) 0 Q hv
          have := fin Q' q2 (by omega)
          omega
    · cases hs
  split at hs
  · -- Jump
    split at hs
    · rename_i hc
      simp only [Option.some.injEq] at hs; subst hs
      obtain ⟨a0, a1, a2⟩ := hasB_out hc
      refine ⟨len, on0, a0, a1, l0, l1, cnt, top, fun Q hv => ?_⟩
      have hS : ∀ z, SB { st with pos := a } z = true → SB st z = true := by
        intro z hz
        unfold SB at hz ⊢
        simp only [Bool.or_eq_true, decide_eq_true_eq] at hz ⊢
        rcases hz with hz | hz
        · exact .inl hz
        · left; rw [← hz] at a2; simpa using a2
      have h1 := cost_mono (ms_sub hS) 0 Q
      have h2 := pot Q hv
      simp only
      omega
    · cases hs
  · cases hs

theorem Inv.fold {l s : Nat} {st st' : St} (acts : List (Int × Int)) (h : Inv l s st) (hf : foldW l s st acts = some st') : Inv l s st' := by
  induction acts generalizing st with
  | nil => simp only [foldW, Option.some.injEq] at hf; subst hf; exact h
  | cons x r ih =>
    obtain ⟨k, a⟩ := x
    simp only [foldW] at hf
    cases hx : stepW l s st k a with
    | none => rw [hx] at hf; cases hf
    | some st1 => rw [hx] at hf; exact ih (h.step hx) hf

end LB

/-- Acts that are allowed and reverse all steps have at least the least number of Gos. -/
theorem walk_least {l s : Nat} {acts : List (Int × Int)} {g : Int} (h : walkR l s acts = some g) : (BM.T l s : Int) ≤ g := by
  unfold walkR at h
  cases hf : foldW l s (st0 l) acts with
  | none => rw [hf] at h; cases h
  | some st =>
    rw [hf] at h
    simp only [Option.bind_some] at h
    split at h
    · cases h
    · rename_i hl
      simp only [Option.some.injEq] at h
      have inv := (LB.Inv.zero l s).fold acts hf
      have hl0 := inv.l0
      have e : st.last.toNat = 0 := by omega
      have := inv.pot [] (by rw [e]; exact ⟨.inr ⟨rfl, rfl⟩, by omega⟩)
      rw [e] at this
      have t1 : LB.val 0 (s + 1) 0 [] = 0 := BM.T_nought s
      have t2 : LB.cost (LB.ms (LB.SB st)) 0 [] = 0 := rfl
      rw [t1, t2] at this
      omega

end Go.Proofs.Ythbdhcbdhcgkfaa
