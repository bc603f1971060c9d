/- Plain: the acts of a plan are allowed, reverse all steps, and have just the least number of Gos. -/
import Derived.Test.YthbdhcbdhcgkfaaWi
namespace Go.Proofs.Ythbdhcbdhcgkfaa

theorem foldW_append (l s : Nat) (st : St) (a b : List (Int × Int)) : foldW l s st (a ++ b) = (foldW l s st a).bind fun st' => foldW l s st' b := by
  induction a generalizing st with
  | nil => rfl
  | cons x r ih =>
    obtain ⟨k, p⟩ := x
    simp only [List.cons_append, foldW]
    cases stepW l s st k p with
    | none => rfl
    | some st' => simp only [Option.bind_some]; exact ih st'

theorem step_go (l s : Nat) (st : St) (a : Int) (h1 : a = st.pos + 1) (h2 : a ≤ l) : stepW l s st 1 a = some { st with pos := a, gos := st.gos + 1 } := by
  unfold stepW; rw [if_pos rfl, if_pos ⟨h1, h2⟩]

theorem fold_go (l s f n : Nat) (st : St) (hp : st.pos = f) (hl : f + n ≤ l) : foldW l s st (goL f n) = some { st with pos := (f : Int) + n, gos := st.gos + n } := by
  induction n with
  | zero => simp [goL, foldW, ← hp]
  | succ n ih =>
    rw [goL, foldW_append, ih (by omega)]
    simp only [Option.bind_some, foldW]
    rw [step_go l s _ _ rfl (by simp only; omega)]
    simp only [Option.bind_some, Option.some.injEq, St.mk.injEq, and_true, true_and]
    exact ⟨by omega, by omega⟩

/-- What a stretch of a plan begins with. -/
structure Begin (l s f L σ : Nat) (st : St) : Prop where
  pos : st.pos = f
  last : st.last = (f : Int) + L
  len : st.on.length = l + 1
  on : st.on.getD f false = true
  off : ∀ j, f < j → j ≤ f + L → st.on.getD j false = false
  room : st.marks + σ ≤ s
  fits : f + L ≤ l

theorem hasB_nat {l : Nat} {on : List Bool} {j : Nat} (hj : j ≤ l) : hasB l on j = on.getD j false := by
  simp [hasB]; omega

/-- Back from f + L, at its place. -/
theorem fold_back (l s f L : Nat) (st : St) (h : st.last = (f : Int) + L + 1) (hp : st.pos = (f : Int) + L) : stepW l s st 4 ((f : Int) + L + 1) = some { st with last := (f : Int) + L } := by
  unfold stepW
  rw [if_neg (by omega), if_neg (by omega), if_neg (by omega), if_pos rfl, if_pos ⟨by omega, by omega, by omega⟩]
  simp only [Option.some.injEq, St.mk.injEq, and_true, true_and]
  omega

theorem fold_jump (l s f : Nat) (st : St) (hf : f ≤ l) (h : st.on.getD f false = true) : stepW l s st 5 (f : Int) = some { st with pos := (f : Int) } := by
  unfold stepW
  rw [if_neg (by omega), if_neg (by omega), if_neg (by omega), if_neg (by omega), if_pos rfl, hasB_nat hf, if_pos h]

theorem fold_jump' (l s f : Nat) (p m la g : Int) (on : List Bool) (hf : f ≤ l) (h : on.getD f false = true) : stepW l s ⟨p, m, la, g, on⟩ 5 (f : Int) = some ⟨(f : Int), m, la, g, on⟩ :=
  fold_jump l s f ⟨p, m, la, g, on⟩ hf h

theorem T_zero_succ (j : Nat) : BM.T (j + 1) 0 = j + BM.T j 0 := by
  have a := BM.T_zero j
  have b := BM.T_zero (j + 1)
  simp only [Nat.add_sub_cancel] at b
  cases j with
  | zero => rw [BM.T_one, BM.T_nought]
  | succ j =>
    simp only [Nat.add_sub_cancel] at a
    have e : (j + 1 + 1) * (j + 1) = (j + 1) * j + 2 * (j + 1) := by rw [Nat.mul_comm (j + 1 + 1), Nat.mul_comm 2, ← Nat.mul_add]
    omega

theorem fold_rev0 (l s f L : Nat) (st : St) (h : Begin l s f L 0 st) : foldW l s st (rev0 f L) = some { st with last := (f : Int), gos := st.gos + BM.T L 0 } := by
  induction L generalizing st with
  | zero =>
    have := h.last
    simp only [rev0, foldW, BM.T_nought, Option.some.injEq]
    cases st
    simp_all
  | succ L ih =>
    have hp := h.pos
    have hl := h.last
    have hf := h.fits
    rw [rev0, foldW_append, fold_go l s f L st hp (by omega)]
    simp only [Option.bind_some, foldW]
    rw [fold_back l s f L _ (by simp only; omega) rfl]
    simp only [Option.bind_some]
    by_cases h0 : L = 0
    · subst h0
      rw [show BM.T (0 + 1) 0 = 0 from BM.T_one 0]
      simp only [if_true, List.nil_append, rev0, foldW, Option.some.injEq, St.mk.injEq, and_true, true_and]
      omega
    · rw [if_neg h0]
      simp only [List.cons_append, List.nil_append, foldW]
      rw [fold_jump' l s f _ _ _ _ _ (by omega) h.on]
      simp only [Option.bind_some]
      rw [ih ⟨(f : Int), st.marks, (f : Int) + L, st.gos + L, st.on⟩ ⟨rfl, rfl, h.len, h.on, fun j h1 h2 => h.off j h1 (by omega), h.room, by omega⟩, T_zero_succ]
      simp only [Option.some.injEq, St.mk.injEq, and_true, true_and]
      omega

theorem set_set_false (on : List Bool) (j : Nat) (h : on.getD j false = false) : (on.set j true).set j false = on := by
  rw [List.set_set]
  apply List.ext_getElem?
  intro i
  rw [List.getElem?_set]
  by_cases e : j = i
  · subst e
    rw [if_pos rfl]
    by_cases hl : j < on.length
    · rw [if_pos hl]
      simp only [List.getD_eq_getElem?_getD, List.getElem?_eq_getElem hl, Option.getD_some] at h
      rw [List.getElem?_eq_getElem hl, h]
    · rw [if_neg hl, List.getElem?_eq_none (by omega)]
  · rw [if_neg e]

theorem getD_set (on : List Bool) (j i : Nat) (b : Bool) (hj : j < on.length) : (on.set j b).getD i false = if j = i then b else on.getD i false := by
  simp only [List.getD_eq_getElem?_getD, List.getElem?_set]
  by_cases e : j = i
  · subst e; simp [hj]
  · simp [e]

theorem fold_plan (l s n : Nat) : ∀ (f L σ : Nat) (st : St), 1 ≤ L → L ≤ n → Begin l s f L σ st → foldW l s st (planF n f L σ) = some { st with last := (f : Int), gos := st.gos + BM.T L σ } := by
  induction n with
  | zero => intro f L σ st h1 h2; omega
  | succ n ih =>
    intro f L σ st h1 h2 h
    unfold planF
    by_cases hs : σ = 0
    · rw [if_pos hs]; subst hs; exact fold_rev0 l s f L st h
    rw [if_neg hs]
    have hp := h.pos
    have hl := h.last
    have hf := h.fits
    have hr := h.room
    by_cases hL : L = 1
    · subst hL
      rw [if_pos rfl]
      simp only [foldW]
      have := fold_back l s f 0 st (by omega) (by omega)
      simp only [Int.natCast_zero, Int.add_zero] at this
      rw [this]
      simp only [Option.bind_some, BM.T_one, Option.some.injEq, St.mk.injEq, and_true, true_and]
      omega
    rw [if_neg hL]
    obtain ⟨k1, k2⟩ := BM.spl_range (l := L) (s := σ) (by omega)
    have hat := BM.spl_attains (l := L) (s := σ) (by omega) (by omega)
    generalize BM.spl L σ = k at *
    have hoff := h.off (f + k) (by omega) (by omega)
    have hlen := h.len
    have hon := h.on
    -- forward, and mark
    rw [foldW_append, fold_go l s f k st hp (by omega)]
    simp only [Option.bind_some, foldW]
    have hmark : stepW l s { st with pos := (f : Int) + k, gos := st.gos + k } 2 ((f : Int) + k) = some { st with pos := (f : Int) + k, gos := st.gos + k, on := st.on.set (f + k) true, marks := st.marks + 1 } := by
      unfold stepW
      have e : ((f : Int) + k) = ((f + k : Nat) : Int) := by omega
      rw [if_neg (by omega), if_pos rfl, if_pos ⟨rfl, by rw [e, hasB_nat (by omega)]; exact hoff, by simp only; omega⟩]
      simp only [e, Int.toNat_natCast]
    rw [hmark]
    simp only [Option.bind_some]
    -- the upper part
    rw [foldW_append, ih (f + k) (L - k) (σ - 1) _ (by omega) (by omega) ⟨by simp only; omega, by simp only; omega, by simp [hlen], by
        rw [getD_set _ _ _ _ (by omega)]; simp, fun j j1 j2 => by
        rw [getD_set _ _ _ _ (by omega), if_neg (by omega)]; exact h.off j (by omega) (by omega), by simp only; omega, by omega⟩]
    simp only [Option.bind_some, foldW]
    have hdrop : ∀ g lst : Int, stepW l s { pos := (f : Int) + k, marks := st.marks + 1, last := lst, gos := g, on := st.on.set (f + k) true } 3 ((f : Int) + k) = some { pos := (f : Int) + k, marks := st.marks, last := lst, gos := g, on := st.on } := by
      intro g lst
      unfold stepW
      have e : ((f : Int) + k) = ((f + k : Nat) : Int) := by omega
      rw [if_neg (by omega), if_neg (by omega), if_pos rfl, if_pos ⟨by omega, by rw [e, hasB_nat (by omega), getD_set _ _ _ _ (by omega), if_pos rfl]⟩]
      simp only [e, Int.toNat_natCast, set_set_false _ _ hoff, Option.some.injEq, St.mk.injEq, and_true, true_and]
      omega
    rw [hdrop]
    simp only [Option.bind_some]
    rw [fold_jump' l s f _ _ _ _ _ (by omega) hon]
    simp only [Option.bind_some]
    rw [ih f k σ ⟨(f : Int), st.marks, ((f + k : Nat) : Int), st.gos + k + BM.T (L - k) (σ - 1), st.on⟩ k1 (by omega) ⟨rfl, by simp only; omega, hlen, hon, fun j j1 j2 => h.off j j1 (by omega), hr, by omega⟩]
    unfold BM.fk at hat
    simp only [Option.some.injEq, St.mk.injEq, and_true, true_and]
    omega

theorem walkR_plan (l s : Nat) (h1 : 1 ≤ l) : walkR l s (planL l s) = some (BM.T l s : Int) := by
  unfold walkR planL
  rw [fold_plan l s l 0 l s (st0 l) h1 (Nat.le_refl _) ⟨rfl, by simp [st0], by simp [st0], by simp [st0], fun j h1 h2 => by
    obtain ⟨i, rfl⟩ : ∃ i, j = i + 1 := ⟨j - 1, by omega⟩
    simp [st0, List.getD_eq_getElem?_getD, List.getElem?_replicate]; split <;> rfl, by simp [st0], by omega⟩]
  simp [st0]

end Go.Proofs.Ythbdhcbdhcgkfaa
