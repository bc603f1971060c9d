/- The walk of the law TableCounts: it returns true. Condition: the argument reads as a list of ints. -/
import Derived.Test.YtbjfojdhdjehpaaTh
import Derived.Test.YtbjfojdhdjehpaaTgii
import Derived.Test.YtbjfojdhdjehpaaTfii
namespace Go.Proofs.Ytbjfojdhdjehpaa
open Go.RowKit
set_option linter.unusedVariables false
set_option linter.unusedSimpArgs false

theorem owns_slice {w : World} {B : Nat} {e : TypeId} {n : Nat} {v : Value} {xs : List Value} (h : w.ownsRow B e 1 v n xs) :
    ∃ b cap, v = .slice b n cap ∧ ∀ i x, xs[i]? = some x → ∃ g, b = some ⟨g, 0, none⟩ ∧ w.cell? ⟨g, i, none⟩ = some x := by
  rcases Nat.eq_zero_or_pos n with h0 | h0
  · have hl := h.1
    have hnil : xs = [] := List.eq_nil_of_length_eq_zero (by omega)
    rcases h.2 with ⟨rfl, _⟩ | ⟨g, cap, cur, rfl, _⟩
    · exact ⟨none, 0, by rw [h0], fun i x hx => by simp [hnil] at hx⟩
    · exact ⟨_, cap, rfl, fun i x hx => by simp [hnil] at hx⟩
  · obtain ⟨g, cap, rfl, _, hr⟩ := row_of_owns h h0
    exact ⟨_, cap, rfl, fun i x hx => ⟨g, rfl, hr.cell hx⟩⟩

theorem NewTab_ii.oth {w : World} {p : Nat} {L : List (Int × Int)} {w1 w2 : World} (h : NewTab_ii w p L w1) (ho : Oth [] w1 w2) : NewTab_ii w p L w2 := by
  obtain ⟨S, h1, h2, h3⟩ := h
  exact ⟨S, h1.oth ho (by simp), h2.trans ho (Fr.nil _ _), h3⟩
theorem Get_cnt {w0 : World} {p : Nat} {l : List Int} {w : World} (h : NewTab_ii w0 p (cnt l) w) (k : Int) (h1 : l.length ≤ 200) :
    Calls Try.prog 9 #[.pointer (some ⟨p, 0, none⟩), .int .i64 k] w fun e w' => e = .returned (.tuple #[.int .i64 (l.count k), .bool (decide (k ∈ l))]) ∧ NewTab_ii w0 p (cnt l) w' ∧ Oth [] w w' := by
  have hq := cnt_ok l
  have h' := h
  obtain ⟨S, ht, ho, hS⟩ := h
  have := Get_any_ii p S (cnt l) k w ht (fun _ _ => trivial) trivial hq.srt (by have := hq.len; omega)
  rw [hq.get, hq.has] at this
  refine this.mono ?_
  rintro e w2 ⟨rfl, h3⟩
  exact ⟨rfl, h'.oth h3, h3⟩

/-- The argument: a slice that reads as these ints. -/
def ReadsI (base : Option Addr) (n : Nat) (l : List Int) (w : World) : Prop := n = l.length ∧ ∀ i k, l[i]? = some k → ∃ g off, base = some ⟨g, off, none⟩ ∧ w.cell? ⟨g, off + i, none⟩ = some (.int .i64 k)

theorem sum_take_bound {T : List (Int × Int)} (h : ∀ p, p ∈ T → 0 ≤ p.2 ∧ p.2 ≤ 200) (j : Nat) : 0 ≤ sumV (T.take j) ∧ sumV (T.take j) ≤ 200 * j := by
  induction j with
  | zero => simp [sumV]
  | succ j ih =>
    rw [List.take_add_one]
    cases hq : T[j]? with
    | none => simp only [Option.toList_none, List.append_nil]; omega
    | some p =>
      have := h p (List.mem_of_getElem? hq)
      simp only [sumV, Option.toList_some, List.map_append, List.map_cons, List.map_nil, List.sum_append, List.sum_cons, List.sum_nil] at ih ⊢
      omega

set_option maxHeartbeats 4000000 in
set_option maxRecDepth 100000 in
theorem tableCounts_walk (base : Option Addr) (n cap : Nat) (l : List Int) (w : World) (hR : ReadsI base n l w) :
    Calls Try.prog 3 #[.slice base n cap] w fun e w' => e = .returned (.bool true) ∧ Oth [] w w' := by
  obtain ⟨hn, hc⟩ := hR
  by_cases h200 : n ≤ 200
  · have HN := Lib.hid hn
    have HC := Lib.hid hc
    have t0 : ¬ (200 : Int) < (n : Int) := by omega
    clear hn hc
    go_enter Try.func3, Try.ntmps3
    go_wp2_with fail
    refine (Count_any_ii base n cap l w HN.out h200 HC.out (fun _ _ => trivial)).mono ?_
    rintro e w1 ⟨q, rfl, hnew⟩
    have HT1 := Lib.hid hnew
    clear hnew
    go_wp2_with fail
    go_loopw [26] (fun x wr => ∃ i : Nat, i ≤ n ∧ x = .int .i64 i ∧ Hid (NewTab_ii w q (cnt l) wr)) (fun x _ => (n - intOf x).toNat)
    case atStart => exact ⟨0, by omega, rfl, HT1⟩
    case round =>
      obtain ⟨i, hi, rfl, ht⟩ := hrel
      by_cases hlt : i < n
      · have t1 : (i : Int) < (n : Int) := by omega
        obtain ⟨k, hk⟩ : ∃ k, l[i]? = some k := ⟨_, List.getElem?_eq_getElem (by have := HN.out; omega)⟩
        obtain ⟨g, off, rfl, hcell⟩ := HC.out i k hk
        have ho : Oth [] w wr := by obtain ⟨S, _, ho, _⟩ := ht.out; exact ho
        have hcell2 := ho.cell hcell (by simp)
        have HM := Lib.hid (List.mem_of_getElem? hk)
        clear hcell hk
        go_wp2_with fail
        go_loop [7, 32] (fun c x => ∃ j : Nat, j ≤ n ∧ x = .int .i64 j ∧ c = .int .i64 ((l.take j).count k)) (fun _ x => (n - intOf x).toNat)
        case atStart => exact ⟨0, by omega, rfl, by simp⟩
        case round =>
          obtain ⟨j, hj, rfl, rfl⟩ := hrel
          by_cases hjt : j < n
          · have t2 : (j : Int) < (n : Int) := by omega
            obtain ⟨x, hx⟩ : ∃ x, l[j]? = some x := ⟨_, List.getElem?_eq_getElem (by have := HN.out; omega)⟩
            obtain ⟨g2, off2, he, hcx⟩ := HC.out j x hx
            cases he
            have hcx2 := ho.cell hcx (by simp)
            have HS : Hid ((l.take (j + 1)).count k = (l.take j).count k + (if x = k then 1 else 0)) := by
              show (l.take (j + 1)).count k = _
              rw [List.take_add_one, hx, List.count_append]
              by_cases e : x = k <;> simp [e]
            have hcb : (l.take j).count k ≤ 200 := by
              have := List.count_le_length (a := k) (l := l.take j)
              rw [List.length_take] at this; omega
            obtain ⟨c, hcc⟩ : ∃ c, c = (l.take j).count k := ⟨_, rfl⟩
            rw [← hcc] at hcb HS ⊢
            clear hx hcx hcc
            by_cases e : x = k
            · subst e
              rw [if_pos rfl] at HS
              go_wp2_with fail
              go_round
              case rel => exact ⟨j + 1, by omega, by go_num, by rw [HS.out]; go_num⟩
              case measure => simp [intOf]; omega
            · rw [if_neg e] at HS
              go_wp2_with fail
              go_round
              case rel => exact ⟨j + 1, by omega, by go_num, by rw [HS.out]; rfl⟩
              case measure => simp [intOf]; omega
          · obtain rfl : j = n := by omega
            have t2 : ¬ (j : Int) < (j : Int) := by omega
            rw [List.take_of_length_le (by have := HN.out; omega)]
            have HG : Hid (Calls Try.prog 9 #[.pointer (some ⟨q, 0, none⟩), .int .i64 k] wr fun e w' => e = .returned (.tuple #[.int .i64 (l.count k), .bool true]) ∧ NewTab_ii w q (cnt l) w') := by
              refine (Get_cnt ht.out k (by have := HN.out; omega)).mono ?_
              rintro e w' ⟨rfl, h1, h2⟩
              exact ⟨by rw [decide_eq_true HM.out], h1⟩
            obtain ⟨c, hcc⟩ : ∃ c, c = l.count k := ⟨_, rfl⟩
            rw [← hcc] at HG ⊢
            clear hcc
            go_wp2_with fail
            refine HG.out.mono ?_
            rintro e w2 ⟨rfl, h1⟩
            have H1 := Lib.hid h1
            clear h1
            go_wp2_with fail
            go_roundw
            case rel => exact ⟨i + 1, by omega, by go_num, H1⟩
            case measure => simp [intOf]; omega
      · obtain rfl : i = n := by omega
        have t1 : ¬ (i : Int) < (i : Int) := by omega
        have HK : Hid (Calls Try.prog 10 #[.pointer (some ⟨q, 0, none⟩)] wr fun e w' => ∃ b cp, e = .returned (.slice b (cnt l).length cp) ∧ (∀ j p, (cnt l)[j]? = some p → ∃ g, b = some ⟨g, 0, none⟩ ∧ w'.cell? ⟨g, j, none⟩ = some (.int .i64 p.1)) ∧ NewTab_ii w q (cnt l) w') := by
          have ht' := ht.out
          obtain ⟨S, h1, h2, h3⟩ := ht'
          refine (Keys_any_ii q S (cnt l) wr h1 (by have := (cnt_ok l).len; have := HN.out; omega)).mono ?_
          rintro e w' ⟨v, rfl, h4, h5⟩
          obtain ⟨b, cp, rfl, h6⟩ := owns_slice h4
          refine ⟨b, cp, rfl, fun j p hp => h6 j _ ?_, ht.out.oth h5⟩
          unfold keyCells_ii
          rw [List.getElem?_map, hp]; rfl
        have HB : Hid (∀ j, 0 ≤ sumV ((cnt l).take j) ∧ sumV ((cnt l).take j) ≤ 200 * j) := by
          refine sum_take_bound (fun p hp => ?_)
          obtain ⟨a, b⟩ := p
          have hg := (getK_mem (z := 0) (cnt_ok l).srt hp).2
          rw [(cnt_ok l).get] at hg
          have := List.count_le_length (a := a) (l := l)
          have := HN.out
          simp only; omega
        have HLEN : Hid ((cnt l).length ≤ 200) := by have := (cnt_ok l).len; have := HN.out; show _ ≤ _; omega
        have HSUM : Hid (sumV (cnt l) = (i : Int)) := by have := (cnt_ok l).sum; have := HN.out; show _ = _; omega
        have HV : Hid (∀ (j : Nat) (p : Int × Int), (cnt l)[j]? = some p → (l.count p.1 : Int) = p.2) := fun j p hp => by
          obtain ⟨a, b⟩ := p
          have hg := (getK_mem (z := 0) (cnt_ok l).srt (List.mem_of_getElem? hp)).2
          rw [(cnt_ok l).get] at hg
          exact hg
        obtain ⟨m, hm⟩ : ∃ m, m = (cnt l).length := ⟨_, rfl⟩
        rw [← hm] at HK HLEN
        have HMM := Lib.hid hm
        have hm200 : m ≤ 200 := HLEN.out
        clear hm ht
        go_wp2_with fail
        refine HK.out.mono ?_
        rintro e w2 ⟨b, cp, rfl, hcells, hnew⟩
        have HCE := Lib.hid hcells
        have HT2 := Lib.hid hnew
        clear hcells hnew
        go_wp2_with fail
        go_loopw [4, 59] (fun s x wr => ∃ j : Nat, j ≤ m ∧ x = .int .i64 j ∧ s = .int .i64 (sumV ((cnt l).take j)) ∧ Oth [] w2 wr ∧ Hid (NewTab_ii w q (cnt l) wr)) (fun _ x _ => (m - intOf x).toNat)
        case atStart => exact ⟨0, by omega, rfl, by simp [sumV], Oth.refl _ _, HT2⟩
        case round =>
          obtain ⟨j, hj, rfl, rfl, ho2, ht2⟩ := hrel
          by_cases hjt : j < m
          · have t2 : (j : Int) < (m : Int) := by omega
            obtain ⟨pr, hpr⟩ : ∃ p, (cnt l)[j]? = some p := ⟨_, List.getElem?_eq_getElem (by have := HMM.out; omega)⟩
            obtain ⟨g3, rfl, hc3⟩ := HCE.out j pr hpr
            have hc4 := ho2.cell hc3 (by simp)
            obtain ⟨k, c⟩ := pr
            have hcv := HV.out j _ hpr
            have HG : Hid (Calls Try.prog 9 #[.pointer (some ⟨q, 0, none⟩), .int .i64 k] wr fun e w' => ∃ b, e = .returned (.tuple #[.int .i64 c, .bool b]) ∧ NewTab_ii w q (cnt l) w' ∧ Oth [] wr w') := by
              refine (Get_cnt ht2.out k (by have := HN.out; omega)).mono ?_
              rintro e w' ⟨rfl, h1, h2⟩
              simp only at hcv
              exact ⟨_, by rw [hcv], h1, h2⟩
            have HS : Hid (sumV ((cnt l).take (j + 1)) = sumV ((cnt l).take j) + c) := by
              show _ = _
              rw [List.take_add_one, hpr]; simp [sumV]
            have b1 := HB.out j
            have b2 := HB.out (j + 1)
            rw [HS.out] at b2
            obtain ⟨s, hs⟩ : ∃ s, s = sumV ((cnt l).take j) := ⟨_, rfl⟩
            rw [← hs] at b1 b2 HS ⊢
            obtain ⟨b3, b4⟩ := b1
            obtain ⟨b5, b6⟩ := b2
            clear hs hpr hc3 hcv
            simp only at hc4
            go_wp2_with fail
            refine HG.out.mono ?_
            rintro e w3 ⟨bb, rfl, h1, h2⟩
            have H1 := Lib.hid h1
            have ho3 := ho2.trans h2 (Fr.nil _ _)
            clear h1 h2
            go_wp2_with fail
            go_roundw
            case rel => exact ⟨j + 1, by omega, by go_num, by rw [HS.out], ho3, H1⟩
            case measure => simp [intOf]; omega
          · obtain rfl : j = m := by omega
            have t2 : ¬ (j : Int) < (j : Int) := by omega
            rw [List.take_of_length_le (by have := HMM.out; omega), HSUM.out]
            have ho3 : Oth [] w wr := by obtain ⟨S, _, ho, _⟩ := ht2.out; exact ho
            go_wp2_with fail
            refine (awake_any _).mono ?_
            rintro e w4 ⟨rfl, ho4⟩
            go_wp2
            go_ret
            exact ⟨rfl, ho3.trans ho4 (Fr.nil _ _)⟩
  · have t0 : (200 : Int) < (n : Int) := by omega
    clear hc hn
    go_enter Try.func3, Try.ntmps3
    go_wp2_with fail
    refine (awake_any _).mono ?_
    rintro e w4 ⟨rfl, ho4⟩
    go_wp2
    go_ret
    exact ⟨rfl, ho4⟩
end Go.Proofs.Ytbjfojdhdjehpaa
