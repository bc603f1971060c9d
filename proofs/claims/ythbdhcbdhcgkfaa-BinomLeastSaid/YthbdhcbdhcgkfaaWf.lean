/- The walks of (*plan).reverse and of Plan: the acts are those of the plain function planF. -/
import Derived.Test.YthbdhcbdhcgkfaaWe
namespace Go.Proofs.Ythbdhcbdhcgkfaa
open Go.RowKit

/-- l steps from f reversed without a mark. -/
def rev0 (f : Nat) : Nat → List (Int × Int)
  | 0 => []
  | j + 1 => goL f j ++ ((4, (f : Int) + j + 1) :: ((if j = 0 then [] else [(5, (f : Int))]) ++ rev0 f j))

/-- What reverse lays: l steps from f with s marks (the first number: at least l). -/
def planF : Nat → Nat → Nat → Nat → List (Int × Int)
  | 0, _, _, _ => []
  | n + 1, f, l, s =>
    if s = 0 then rev0 f l
    else if l = 1 then [(4, (f : Int) + 1)]
    else goL f (BM.spl l s) ++ ((2, (f : Int) + BM.spl l s) :: (planF n (f + BM.spl l s) (l - BM.spl l s) (s - 1) ++ ((3, (f : Int) + BM.spl l s) :: (5, (f : Int)) :: planF n f (BM.spl l s) s)))

theorem rev0_length (f j : Nat) : (rev0 f j).length ≤ 2 * (j * j) := by
  induction j with
  | zero => simp [rev0]
  | succ j ih =>
    have e : (j + 1) * (j + 1) = j * j + 2 * j + 1 := by rw [Nat.add_mul, Nat.mul_add]; omega
    rw [e]
    by_cases h : j = 0
    · subst h; simp [rev0, goL]
    · simp [rev0, goL_length, h]; omega

theorem planF_length (n f l s : Nat) (h1 : 1 ≤ l) (h2 : l ≤ n) : (planF n f l s).length ≤ 2 * (l * l) := by
  induction n generalizing f l s with
  | zero => omega
  | succ n ih =>
    unfold planF
    by_cases hs : s = 0
    · rw [if_pos hs]; exact rev0_length f l
    rw [if_neg hs]
    by_cases hl : l = 1
    · rw [if_pos hl]; subst hl; simp
    rw [if_neg hl]
    obtain ⟨k1, k2⟩ := BM.spl_range (l := l) (s := s) (by omega)
    generalize BM.spl l s = k at *
    have a := ih (f + k) (l - k) (s - 1) (by omega) (by omega)
    have b := ih f k s k1 (by omega)
    simp only [List.length_append, List.length_cons, goL_length]
    obtain ⟨m, rfl⟩ : ∃ m, l = k + m := ⟨l - k, by omega⟩
    simp only [Nat.add_sub_cancel_left] at a ⊢
    have e : (k + m) * (k + m) = k * k + 2 * (k * m) + m * m := by
      rw [Nat.add_mul, Nat.mul_add, Nat.mul_add, Nat.mul_comm m k]; omega
    have c : k * 1 ≤ k * m := Nat.mul_le_mul_left _ (by omega)
    rw [e]
    omega

set_option maxHeartbeats 800000 in
theorem reverse_zero (b : Nat) (acts : List (Int × Int)) (f l : Nat) (F L S : Int) (w : World) (hF : F = f) (hL : L = l) (hS : S = 0) (hp : PlanAt b acts w)
    (hlen : acts.length + (rev0 f l).length < 1000000000) (hf : f + l < 1000000) :
    Calls Try.prog 23 #[.pointer (some ⟨b, 0, none⟩), .int .i64 F, .int .i64 L, .int .i64 S] w fun e w' => e = .returned (.tuple #[]) ∧ PlanAt b (acts ++ rev0 f l) w' ∧ Below b w w' := by
  subst hS
  have b1 : 0 ≤ F := by omega
  have b2 : F < 1000000 := by omega
  have b3 : 0 ≤ L := by omega
  have b4 : F + L < 1000000 := by omega
  have HF := Lib.hid hF
  have HL := Lib.hid hL
  clear hF hL
  go_enter Try.func23, Try.ntmps23
  go_wp2_with fail
  go_loopw [8] (fun x wr => ∃ (j : Nat) (done : List (Int × Int)), j ≤ l ∧ x = .int .i64 j ∧ Hid (done ++ rev0 f j = rev0 f l) ∧ PlanAt b (acts ++ done) wr ∧ Below b w wr) (fun x _ => (intOf x).toNat)
  case atStart => exact ⟨l, [], by omega, by rw [HL.out], rfl, by simpa using hp, Below.refl _ _⟩
  case round =>
    obtain ⟨j, done, hj, rfl, hd, hpk, hbk⟩ := hrel
    have hlen2 : done.length + (rev0 f j).length = (rev0 f l).length := by rw [← List.length_append, hd.out]
    have hjl : (j : Int) ≤ L := by have := HL.out; omega
    cases j with
    | zero =>
      go_wp2_with fail
      refine bodyPost_ret (results_none rfl _ _ _) rfl ?_
      have := hd.out
      simp only [rev0, List.append_nil] at this
      subst this
      exact ⟨rfl, hpk, hbk⟩
    | succ j =>
      have hl3 : (rev0 f (j + 1)).length = j + 1 + (if j = 0 then 0 else 1) + (rev0 f j).length := by
        simp only [rev0, List.length_append, List.length_cons, goL_length]
        split <;> simp <;> omega
      have q1 : F + ((j : Int) + 1) - 1 = (f : Int) + j := by have := HF.out; omega
      have Q1 := Lib.hid q1
      clear q1
      have hl4 : j + 1 ≤ l := hj
      by_cases h0 : j = 0
      · subst h0
        go_wp2_with fail
        refine (steps_any b _ f 0 _ _ _ HF.out (by have := HF.out; omega) hpk (by simp; omega) (by omega)).mono ?_
        rintro e w1 ⟨rfl, hp1, hb1⟩
        go_wp2_with fail
        refine (add_any b _ _ _ _ hp1 (by simp [goL_length]; omega)).mono ?_
        rintro e w2 ⟨rfl, hp2, hb2⟩
        go_wp2_with fail
        go_roundw
        case rel =>
          refine ⟨0, done ++ [(4, (f : Int) + (0 : Nat) + 1)], by omega, by go_num, ?_, ?_, (hbk.trans hb1).trans hb2⟩
          · have := hd.out; simpa [rev0, goL, Hid] using this
          · have := HF.out; subst this; simpa [goL, List.append_assoc] using hp2
        case measure => simp [intOf]
      · have c1 : (1 : Int) < (j : Int) + 1 := by omega
        go_wp2_with fail
        refine (steps_any b _ f j _ _ _ HF.out (by have := HF.out; omega) hpk (by simp; omega) (by omega)).mono ?_
        rintro e w1 ⟨rfl, hp1, hb1⟩
        go_wp2_with fail
        refine (add_any b _ _ _ _ hp1 (by simp [goL_length]; omega)).mono ?_
        rintro e w2 ⟨rfl, hp2, hb2⟩
        go_wp2_with fail
        refine (add_any b _ _ _ _ hp2 (by simp [goL_length]; rw [if_neg h0] at hl3; omega)).mono ?_
        rintro e w3 ⟨rfl, hp3, hb3⟩
        go_wp2_with fail
        go_roundw
        case rel =>
          refine ⟨j, done ++ (goL f j ++ [(4, (f : Int) + j + 1), (5, (f : Int))]), by omega, by go_num, ?_, ?_, ((hbk.trans hb1).trans hb2).trans hb3⟩
          · have := hd.out; simpa [rev0, h0, Hid, List.append_assoc] using this
          · have := HF.out; subst this; simpa [List.append_assoc, Int.add_assoc] using hp3
        case measure => simp [intOf]

set_option maxHeartbeats 800000 in
theorem reverse_any (n b : Nat) : ∀ (acts : List (Int × Int)) (f l s : Nat) (F L S : Int) (w : World), F = f → L = l → S = s → PlanAt b acts w → 1 ≤ l → l ≤ n → l ≤ 512 → s ≤ 512 →
    acts.length + (planF n f l s).length < 1000000000 → f + l < 1000000 →
    Calls Try.prog 23 #[.pointer (some ⟨b, 0, none⟩), .int .i64 F, .int .i64 L, .int .i64 S] w fun e w' => e = .returned (.tuple #[]) ∧ PlanAt b (acts ++ planF n f l s) w' ∧ Below b w w' := by
  induction n with
  | zero => intro acts f l s F L S w _ _ _ _ h1 h2; omega
  | succ n ih0 =>
    have IH := Lib.hid ih0
    clear ih0
    intro acts f l s F L S w hF hL hS hp h1 h2 h3 h4 hlen hf
    by_cases hs : s = 0
    · have e : planF (n + 1) f l s = rev0 f l := by unfold planF; rw [if_pos hs]
      rw [e] at hlen ⊢
      exact reverse_zero b acts f l F L S w hF hL (by omega) hp hlen hf
    have e0 : (S == 0) = false := by simp; omega
    by_cases hl : l = 1
    · have e : planF (n + 1) f l s = [(4, (f : Int) + 1)] := by unfold planF; rw [if_neg hs, if_pos hl]
      rw [e] at hlen ⊢
      have e1 : (L == 1) = true := by simp; omega
      have b1 : 0 ≤ F := by omega
      have b2 : F < 1000000 := by omega
      have HF := Lib.hid hF
      clear hF hL hS e hs hl
      go_enter Try.func23, Try.ntmps23
      go_wp2_with fail
      refine (add_any b _ _ _ _ hp (by omega)).mono ?_
      rintro e w1 ⟨rfl, hp1, hb1⟩
      go_wp2_with fail
      refine bodyPost_ret (results_none rfl _ _ _) rfl ?_
      have := HF.out; subst this
      exact ⟨rfl, hp1, hb1⟩
    · have e : planF (n + 1) f l s = goL f (BM.spl l s) ++ ((2, (f : Int) + BM.spl l s) :: (planF n (f + BM.spl l s) (l - BM.spl l s) (s - 1) ++ ((3, (f : Int) + BM.spl l s) :: (5, (f : Int)) :: planF n f (BM.spl l s) s))) := by
        rw [planF, if_neg hs, if_neg hl]
      rw [e] at hlen ⊢
      have e1 : (L == 1) = false := by simp; omega
      have b1 : 0 ≤ F := by omega
      have b2 : F + L < 1000000 := by omega
      have b3 : L ≤ 512 := by omega
      have b4 : 2 ≤ L := by omega
      have b5 : S ≤ 512 := by omega
      have b6 : 1 ≤ S := by omega
      obtain ⟨k1, k2⟩ := BM.spl_range (l := l) (s := s) (by omega)
      have hl2 : 2 ≤ l := by omega
      have hs1 : 1 ≤ s := by omega
      have HF := Lib.hid hF
      have HL := Lib.hid hL
      have HS := Lib.hid hS
      clear hF hL hS e hs hl
      simp only [List.length_append, List.length_cons, goL_length] at hlen
      obtain ⟨k, hk⟩ : ∃ k, k = BM.spl l s := ⟨_, rfl⟩
      rw [← hk] at hlen k1 k2 ⊢
      have HK := Lib.hid hk
      clear hk
      have k3 : (k : Int) < L := by have := HL.out; omega
      go_enter Try.func23, Try.ntmps23
      go_wp2_with fail
      refine (split_at l s _ _ _ HL.out HS.out hl2 h3 h4).mono ?_
      rw [← HK.out]
      rintro e w1 ⟨rfl, rfl⟩
      go_wp2_with fail
      refine (steps_any b _ f k _ _ _ HF.out (by have := HF.out; omega) hp (by omega) (by omega)).mono ?_
      rintro e w1 ⟨rfl, hp1, hb1⟩
      go_wp2_with fail
      refine (add_any b _ _ _ _ hp1 (by simp [goL_length]; omega)).mono ?_
      rintro e w2 ⟨rfl, hp2, hb2⟩
      go_wp2_with fail
      refine (IH.out _ (f + k) (l - k) (s - 1) _ _ _ _ (by have := HF.out; omega) (by have := HL.out; omega) (by have := HS.out; omega) hp2 (by omega) (by omega) (by omega) (by omega) (by simp [goL_length]; omega) (by omega)).mono ?_
      rintro e w3 ⟨rfl, hp3, hb3⟩
      go_wp2_with fail
      refine (add_any b _ _ _ _ hp3 (by simp [goL_length]; omega)).mono ?_
      rintro e w4 ⟨rfl, hp4, hb4⟩
      go_wp2_with fail
      refine (add_any b _ _ _ _ hp4 (by simp [goL_length]; omega)).mono ?_
      rintro e w5 ⟨rfl, hp5, hb5⟩
      go_wp2_with fail
      refine (IH.out _ f k s _ _ _ _ HF.out rfl HS.out hp5 (by omega) (by omega) (by omega) (by omega) (by simp [goL_length]; omega) (by omega)).mono ?_
      rintro e w6 ⟨rfl, hp6, hb6⟩
      go_wp2_with fail
      go_end0
      have := HF.out; subst this
      exact ⟨rfl, by simpa [List.append_assoc] using hp6, ((((hb1.trans hb2).trans hb3).trans hb4).trans hb5).trans hb6⟩

/-- The acts of a plan. -/
def planL (l s : Nat) : List (Int × Int) := planF l 0 l s
theorem planL_length (l s : Nat) (h1 : 1 ≤ l) (h2 : l ≤ 512) : (planL l s).length ≤ 524288 := by
  have := planF_length l 0 l s h1 (Nat.le_refl _)
  have : l * l ≤ 512 * 512 := Nat.mul_le_mul h2 h2
  unfold planL; omega

/-- A slice value that reads as these acts in world w, in a row from block number B on. -/
def ActsAt (B : Nat) (v : Value) (acts : List (Int × Int)) (w : World) : Prop := w.ownsRow B 47 2 v acts.length (actCells acts)

theorem owns_base {w : World} {B B' : Nat} {e : TypeId} {size n : Nat} {v : Value} {xs : List Value} (h : w.ownsRow B e size v n xs) (hb : B' ≤ B) : w.ownsRow B' e size v n xs := by
  refine ⟨h.1, ?_⟩
  rcases h.2 with h | ⟨g, cap, cur, h1, h2, h3⟩
  · exact .inl h
  · exact .inr ⟨g, cap, cur, h1, by omega, h3⟩

set_option maxHeartbeats 400000 in
theorem Plan_yes (l s : Nat) (L S : Int) (w : World) (hL : L = l) (hS : S = s) (h1 : 1 ≤ l) (h2 : l ≤ 512) (h3 : s ≤ 512) :
    Calls Try.prog 10 #[.int .i64 L, .int .i64 S] w fun e w' => ∃ v, e = .returned (.tuple #[v, .int .i64 0]) ∧ ActsAt w.heap.size v (planL l s) w' ∧ Below w.heap.size w w' := by
  have hin : insB L S = true := by unfold insB; simp; omega
  have H := Lib.hid hin
  have HL := Lib.hid hL
  have HS := Lib.hid hS
  have hpl := planL_length l s h1 h2
  clear hin hL hS
  have hP : PlanAt w.heap.size [] (w.alloc (.cells #[.slice none 0 0] 41)) := ⟨_, heap_alloc_new w _, World.ownsRow_nil _ _ _ _⟩
  go_enter Try.func10, Try.ntmps10
  go_wp2_with (go_at_call 22; refine (inside_yes _ _ _ H.out).mono ?_; rintro e w' ⟨rfl, rfl⟩)
  refine (reverse_any l w.heap.size [] 0 l s _ _ _ _ rfl HL.out HS.out hP h1 (Nat.le_refl _) h2 h3 (by unfold planL at hpl; simp; omega) (by omega)).mono ?_
  rintro e w1 ⟨rfl, hp1, hb1⟩
  obtain ⟨v, hv, hown⟩ := hp1
  have hc := cell_of_one hv
  have HV := Lib.hid hv
  clear hv
  go_wp2
  go_ret2
  exact ⟨v, rfl, owns_base hown (Nat.le_succ _), ((Below.refl _ _).alloc (Nat.le_refl _) _).trans hb1⟩

set_option maxHeartbeats 400000 in
theorem Plan_no (l s : Int) (w : World) (h : insB l s = false) :
    Calls Try.prog 10 #[.int .i64 l, .int .i64 s] w fun e w' => e = .returned (.tuple #[.slice none 0 0, .int .i64 11]) ∧ w = w' := by
  have H := Lib.hid h
  clear h
  go_enter Try.func10, Try.ntmps10
  go_wp2_with (go_at_call 22; refine (inside_no _ _ _ H.out).mono ?_; rintro e w' ⟨rfl, rfl⟩)
  go_ret2
  exact ⟨rfl, rfl⟩

end Go.Proofs.Ythbdhcbdhcgkfaa
