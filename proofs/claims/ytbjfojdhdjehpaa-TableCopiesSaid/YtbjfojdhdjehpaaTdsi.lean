/- The walks of find's comparison, of slices.BinarySearchFunc and of find at tables of entries. Condition: the keys are in order. -/
import Derived.Test.YtbjfojdhdjehpaaTbsi
import Derived.Test.YtbjfojdhdjehpaaTc
namespace Go.Proofs.Ytbjfojdhdjehpaa
open Go.RowKit
set_option linter.unusedVariables false
set_option linter.unusedSimpArgs false

/-- The entries' cells. -/
def ent_si (L : List (Int × Int)) : List Value := ecs (fun k => (Value.string (sb k))) (fun v => (Value.int .i64 v)) L

theorem cmp2_si (a b : Int) (v : Int) (w : World) (ha : okS a) (hb : okS b) : Calls Try.prog 62 #[.agg #[(Value.string (sb a)), (Value.int .i64 v)], (Value.string (sb b))] w fun e w' => e = .returned (.int .i64 (cmpI a b)) ∧ Oth [] w w' := by
  go_enter Try.func62, Try.ntmps62
  go_wp2_with (go_at_call 60; refine (cmp_s a b _ ha hb).mono ?_; rintro e w' ⟨rfl, rfl⟩)
  go_ret
  exact ⟨rfl, (Oth.refl _ _).alloc _⟩

set_option maxHeartbeats 1000000 in
theorem bs_si (g n cap : Nat) (L : List (Int × Int)) (k : Int) (w : World) (hr : Row 86 2 g n cap (ent_si L) w) (hn : n = L.length) (hok : ∀ p ∈ L, okS p.1) (hk : okS k) (hs : Srt L) (h1 : n ≤ 1000) :
    Calls Try.prog 61 #[.slice (some ⟨g, 0, none⟩) n cap, (Value.string (sb k)), .func (.func 62) #[] #[]] w fun e w' => e = .returned (.tuple #[.int .i64 (idx k L), .bool (hasK k L)]) ∧ Oth [] w w' := by
  obtain ⟨x, hx⟩ : ∃ x, x = idx k L := ⟨_, rfl⟩
  obtain ⟨y, hy⟩ : ∃ y, y = hasK k L := ⟨_, rfl⟩
  rw [← hx, ← hy]
  have HX := Lib.hid hx
  have HY := Lib.hid hy
  have HR := Lib.hid hr
  have HN := Lib.hid hn
  have HOK := Lib.hid hok
  have HS := Lib.hid hs
  clear hx hy hr hn hok hs
  go_enter Try.func61, Try.ntmps61
  go_wp2
  go_loopw [9, 10] (fun p q wr => ∃ lo hi : Nat, p = .int .i64 lo ∧ q = .int .i64 hi ∧ lo ≤ hi ∧ hi ≤ n ∧ Oth [] w wr ∧ Hid (∀ t p, t < lo → L[t]? = some p → p.1 < k) ∧ Hid (∀ t p, hi ≤ t → L[t]? = some p → k ≤ p.1)) (fun p q _ => (intOf q - intOf p).toNat)
  case atStart => exact ⟨0, n, rfl, rfl, by omega, by omega, Oth.refl _ _, fun t p ht => by omega, fun t p ht hp => by have := (List.getElem?_eq_some_iff.1 hp).1; have := HN.out; omega⟩
  case round =>
    obtain ⟨lo, hi, rfl, rfl, hlh, hin, ho, I1, I2⟩ := hrel
    by_cases hlt : lo < hi
    · obtain ⟨m, hm⟩ : ∃ m, m = (lo + hi) / 2 := ⟨_, rfl⟩
      have hml : m < L.length := by have := HN.out; omega
      obtain ⟨⟨a, v⟩, hav⟩ : ∃ p, L[m]? = some p := ⟨_, List.getElem?_eq_getElem hml⟩
      have hR := HR.out.oth ho (by simp)
      have hc1 : wr.cell? ⟨g, m * 2, none⟩ = some (Value.string (sb a)) := hR.cell (ecs_key L m a v hav)
      have hc2 : wr.cell? ⟨g, m * 2 + 1, none⟩ = some (Value.int .i64 v) := hR.cell (ecs_val L m a v hav)
      have HA := Lib.hid (HOK.out _ (List.mem_of_getElem? hav))
      have t1 : (lo : Int) < (hi : Int) := by omega
      have t2 : ((lo : Int) + (hi : Int)) / 2 = (m : Int) := by omega
      have t3 : (m : Int) < (n : Int) := by omega
      have HAV := Lib.hid hav
      have HM := Lib.hid hm
      clear hav hm hR
      by_cases hak : a < k
      · have t4 : cmpI a k < 0 := cmpI_neg.2 hak
        go_wp2_with fail
        refine (cmp2_si a k v _ HA.out hk).mono ?_
        rintro e w' ⟨rfl, ho'⟩
        go_wp2_with fail
        go_roundw
        case rel => exact ⟨m + 1, hi, by go_num, rfl, by have := HM.out; omega, hin, ho.trans ho' (Fr.nil _ _), fun t p ht hp => (by
          rcases Nat.lt_or_ge t m with h | h
          · exact Int.lt_trans (HS.out.lt hp HAV.out h) hak
          · obtain rfl : t = m := by omega
            have := HAV.out; rw [hp] at this; cases this; exact hak), I2⟩
        case measure => have := HM.out; simp [intOf]; omega
      · have t4 : ¬ cmpI a k < 0 := fun h => hak (cmpI_neg.1 h)
        go_wp2_with fail
        refine (cmp2_si a k v _ HA.out hk).mono ?_
        rintro e w' ⟨rfl, ho'⟩
        go_wp2_with fail
        go_roundw
        case rel => exact ⟨lo, m, rfl, rfl, by have := HM.out; omega, by have := HM.out; omega, ho.trans ho' (Fr.nil _ _), I1, fun t p ht hp => (by
          rcases Nat.lt_or_ge m t with h | h
          · have := HS.out.lt HAV.out hp h; simp at this; omega
          · obtain rfl : t = m := by omega
            have := HAV.out; rw [hp] at this; cases this; simp; omega)⟩
        case measure => have := HM.out; simp [intOf]; omega
    · obtain rfl : hi = lo := by omega
      have hxe : x = hi := by rw [HX.out]; exact idx_edge (by have := HN.out; omega) I1.out I2.out
      subst hxe
      by_cases hxn : x < n
      · have t1 : (x : Int) < (n : Int) := by omega
        obtain ⟨⟨a, v⟩, hav⟩ : ∃ p, L[x]? = some p := ⟨_, List.getElem?_eq_getElem (by have := HN.out; omega)⟩
        have hR := HR.out.oth ho (by simp)
        have hc1 : wr.cell? ⟨g, x * 2, none⟩ = some (Value.string (sb a)) := hR.cell (ecs_key L x a v hav)
        have hc2 : wr.cell? ⟨g, x * 2 + 1, none⟩ = some (Value.int .i64 v) := hR.cell (ecs_val L x a v hav)
        have HA := Lib.hid (HOK.out _ (List.mem_of_getElem? hav))
        have hye : (cmpI a k == 0) = y := by
          rw [HY.out]; unfold hasK; rw [← HX.out, hav]; exact cmp_eq a k
        have HYE := Lib.hid hye
        clear hav hR hye
        go_wp2_with fail
        refine (cmp2_si a k v _ HA.out hk).mono ?_
        rintro e w' ⟨rfl, ho'⟩
        go_wp2_with fail
        go_ret2
        refine ⟨?_, ho.trans ho' (Fr.nil _ _)⟩
        show Ending.returned (.tuple #[.int .i64 x, .bool (cmpI a k == 0)]) = _
        rw [HYE.out]
      · have t1 : ¬ (x : Int) < (n : Int) := by omega
        have hy2 : y = false := by
          rw [HY.out]; unfold hasK; rw [← HX.out, List.getElem?_eq_none (by have := HN.out; omega)]
        subst hy2
        go_wp2_with fail
        go_ret2
        exact ⟨rfl, ho⟩

/-- The table in block p: its entries are these; S: its blocks. -/
def Tab_si (p : Nat) (S : List Nat) (L : List (Int × Int)) (w : World) : Prop :=
  (L = [] ∧ S = [p] ∧ ∃ b c, w.heap[p]? = some (.cells #[.slice b 0 c, .int .i64 0] 82 (0, 0))) ∨
  (0 < L.length ∧ ∃ gp c g cap, S = [p, gp, g] ∧ p ≠ gp ∧ p ≠ g ∧ gp ≠ g ∧ w.heap[p]? = some (.cells #[.slice (some ⟨gp, 0, none⟩) 1 c, .int .i64 L.length] 82 (0, 0)) ∧
    (1 ≤ c ∧ c ≤ maxLen) ∧ w.heap[gp]? = some (.cells #[.slice (some ⟨g, 0, none⟩) L.length cap] 87 (0, 0)) ∧ Row 86 2 g L.length cap (ent_si L) w)

set_option maxHeartbeats 1000000 in
theorem find1_si (bt bk p gp c g n cap : Nat) (k a : Int) (w : World) (h1 : w.cell? ⟨bt, 0, none⟩ = some (.pointer (some ⟨p, 0, none⟩))) (h2 : w.cell? ⟨bk, 0, none⟩ = some (Value.string (sb k))) (h3 : w.cell? ⟨p, 0, none⟩ = some (.slice (some ⟨gp, 0, none⟩) 1 c))
    (h4 : w.cell? ⟨gp, 0, none⟩ = some (.slice (some ⟨g, 0, none⟩) n cap)) (h5 : w.cell? ⟨g, 0, none⟩ = some (Value.string (sb a))) (hn : 0 < n) (ha : okS a) (hk : okS k) :
    Calls Try.prog 59 #[.int .i64 0, .pointer (some ⟨bt, 0, none⟩), .pointer (some ⟨bk, 0, none⟩)] w fun e w' => e = .returned (.bool (decide (k < a))) ∧ Oth [] w w' := by
  rw [← cmp_gt]
  have HA := Lib.hid ha
  have HK := Lib.hid hk
  clear ha hk
  go_enter Try.func59, Try.ntmps59
  go_wp2_with fail
  go_quiet ((go_at_call 60; exact Calls.quiet_of_same ((cmp_s a k _ HA.out HK.out).mono (fun _ _ h => ⟨h.1, h.2.symm⟩))))
  go_wp2
  go_ret
  exact ⟨rfl, (Oth.refl _ _).drewN _⟩

theorem search0_si (f : Value) (w : World) : Calls Try.prog 42 #[.int .i64 0, f] w fun e w' => e = .returned (.int .i64 0) ∧ w = w' := by
  go_enter Try.func42, Try.ntmps42
  go_wp2
  go_loop [5, 6] (fun p q => p = .int .i64 0 ∧ q = .int .i64 0) (fun _ _ => 0)
  case atStart => exact ⟨rfl, rfl⟩
  case round =>
    obtain ⟨rfl, rfl⟩ := hrel
    go_wp2
    go_ret
    exact ⟨rfl, rfl⟩

set_option maxHeartbeats 1000000 in
theorem search1_si (bt bk p gp c g n cap : Nat) (k a : Int) (w : World) (h1 : w.cell? ⟨bt, 0, none⟩ = some (.pointer (some ⟨p, 0, none⟩))) (h2 : w.cell? ⟨bk, 0, none⟩ = some (Value.string (sb k))) (h3 : w.cell? ⟨p, 0, none⟩ = some (.slice (some ⟨gp, 0, none⟩) 1 c))
    (h4 : w.cell? ⟨gp, 0, none⟩ = some (.slice (some ⟨g, 0, none⟩) n cap)) (h5 : w.cell? ⟨g, 0, none⟩ = some (Value.string (sb a))) (hn : 0 < n) (ha : okS a) (hk : okS k) :
    Calls Try.prog 42 #[.int .i64 1, .func (.func 59) #[] #[.pointer (some ⟨bt, 0, none⟩), .pointer (some ⟨bk, 0, none⟩)]] w fun e w' => e = .returned (.int .i64 (if k < a then 0 else 1)) ∧ Oth [] w w' := by
  have HF : Hid (Calls Try.prog 59 #[.int .i64 0, .pointer (some ⟨bt, 0, none⟩), .pointer (some ⟨bk, 0, none⟩)] w fun e w' => e = .returned (.bool (decide (k < a))) ∧ Oth [] w w') := find1_si bt bk p gp c g n cap k a w h1 h2 h3 h4 h5 hn ha hk
  clear h1 h2 h3 h4 h5 ha hk
  by_cases hka : k < a
  · rw [if_pos hka]
    have HD := Lib.hid (decide_eq_true hka)
    clear hka
    go_enter Try.func42, Try.ntmps42
    go_wp2
    go_loopw [5, 6] (fun p q wr => (p = .int .i64 0 ∧ q = .int .i64 1 ∧ w = wr) ∨ (p = .int .i64 0 ∧ q = .int .i64 0 ∧ Oth [] w wr)) (fun p q _ => (intOf q - intOf p).toNat)
    case atStart => exact .inl ⟨rfl, rfl, rfl⟩
    case round =>
      rcases hrel with ⟨rfl, rfl, rfl⟩ | ⟨rfl, rfl, ho⟩
      · go_wp2_with fail
        refine HF.out.mono ?_
        rw [HD.out]
        rintro e w' ⟨rfl, ho'⟩
        go_wp2_with fail
        go_roundw
        case rel => exact .inr ⟨rfl, rfl, ho'⟩
        case measure => simp [intOf]
      · go_wp2_with fail
        go_ret
        exact ⟨rfl, ho⟩
  · rw [if_neg hka]
    have HD := Lib.hid (decide_eq_false hka)
    clear hka
    go_enter Try.func42, Try.ntmps42
    go_wp2
    go_loopw [5, 6] (fun p q wr => (p = .int .i64 0 ∧ q = .int .i64 1 ∧ w = wr) ∨ (p = .int .i64 1 ∧ q = .int .i64 1 ∧ Oth [] w wr)) (fun p q _ => (intOf q - intOf p).toNat)
    case atStart => exact .inl ⟨rfl, rfl, rfl⟩
    case round =>
      rcases hrel with ⟨rfl, rfl, rfl⟩ | ⟨rfl, rfl, ho⟩
      · go_wp2_with fail
        refine HF.out.mono ?_
        rw [HD.out]
        rintro e w' ⟨rfl, ho'⟩
        go_wp2_with fail
        go_roundw
        case rel => exact .inr ⟨rfl, rfl, ho'⟩
        case measure => simp [intOf]
      · go_wp2_with fail
        go_ret
        exact ⟨rfl, ho⟩

set_option maxHeartbeats 1000000 in
/-- find at a table that has entries. -/
theorem find_some_si (p gp c g n cap : Nat) (L : List (Int × Int)) (k : Int) (w : World) (h3 : w.cell? ⟨p, 0, none⟩ = some (.slice (some ⟨gp, 0, none⟩) 1 c)) (h4 : w.cell? ⟨gp, 0, none⟩ = some (.slice (some ⟨g, 0, none⟩) n cap))
    (hr : Row 86 2 g n cap (ent_si L) w) (hn : n = L.length) (hn0 : 0 < n) (hok : ∀ p ∈ L, okS p.1) (hk : okS k) (hs : Srt L) (h1 : n ≤ 1000) :
    Calls Try.prog 38 #[.pointer (some ⟨p, 0, none⟩), (Value.string (sb k))] w fun e w' => e = .returned (.tuple #[.int .i64 0, .int .i64 (idx k L), .bool (hasK k L)]) ∧ Oth [] w w' := by
  obtain ⟨⟨a, v⟩, hav⟩ : ∃ p, L[0]? = some p := ⟨_, List.getElem?_eq_getElem (by omega)⟩
  have hc : w.cell? ⟨g, 0, none⟩ = some (Value.string (sb a)) := hr.cell (ecs_key L 0 a v hav)
  have HA := Lib.hid (hok _ (List.mem_of_getElem? hav))
  have HSE : Hid (k < a → idx k L = 0 ∧ hasK k L = false) := fun h => by
    have e : idx k L = 0 := idx_edge (by omega) (fun t p ht => by omega) (fun t p _ hp => by
      rcases Nat.eq_zero_or_pos t with h0 | h0
      · subst h0; rw [hav] at hp; cases hp; simp; omega
      · have := hs.lt hav hp h0; simp at this; omega)
    refine ⟨e, ?_⟩
    unfold hasK
    rw [e, hav]
    simp; omega
  have HB : Hid (∀ w', Oth [] w w' → Calls Try.prog 61 #[.slice (some ⟨g, 0, none⟩) n cap, (Value.string (sb k)), .func (.func 62) #[] #[]] w' fun e w'' => e = .returned (.tuple #[.int .i64 (idx k L), .bool (hasK k L)]) ∧ Oth [] w' w'') :=
    fun w' ho => bs_si g n cap L k w' (hr.oth ho (by simp)) hn hok hk hs h1
  have HK := Lib.hid hk
  obtain ⟨x, hx⟩ : ∃ x, x = idx k L := ⟨_, rfl⟩
  obtain ⟨y, hy⟩ : ∃ y, y = hasK k L := ⟨_, rfl⟩
  rw [← hx, ← hy] at HSE HB ⊢
  have hp : p < w.heap.size := World.block_lt_of_cell? w _ h3
  have hgp : gp < w.heap.size := World.block_lt_of_cell? w _ h4
  have hgl : g < w.heap.size := hr.lt
  clear hav hr hn hok hk hs hx hy
  obtain ⟨w1, hw1⟩ : ∃ w1, w1 = (w.alloc (.cells #[.pointer (some ⟨p, 0, none⟩)] 57)).alloc (.cells #[(Value.string (sb k))] 9) := ⟨_, rfl⟩
  have ho1 : Oth [] w w1 := by rw [hw1]; exact ((Oth.refl _ _).alloc _).alloc _
  have b1 : w1.cell? ⟨w.heap.size, 0, none⟩ = some (.pointer (some ⟨p, 0, none⟩)) := by
    rw [hw1]; exact Lib.cell?_alloc_some _ (by rw [World.cell?_alloc_at (w := w) _ _ w.heap.size 0 rfl]; rfl)
  have b2 : w1.cell? ⟨w.heap.size + 1, 0, none⟩ = some (Value.string (sb k)) := by
    rw [hw1]; rw [World.cell?_alloc_at _ _ (w.heap.size + 1) 0 (by simp)]; rfl
  have c3 := ho1.cell h3 (by simp)
  have c4 := ho1.cell h4 (by simp)
  have c5 := ho1.cell hc (by simp)
  have HS : Hid (Calls Try.prog 42 #[.int .i64 1, .func (.func 59) #[] #[.pointer (some ⟨w.heap.size, 0, none⟩), .pointer (some ⟨w.heap.size + 1, 0, none⟩)]] w1 fun e w' => e = .returned (.int .i64 (if k < a then 0 else 1)) ∧ Oth [] w1 w') :=
    search1_si _ _ p gp c g n cap k a w1 b1 b2 c3 c4 c5 hn0 HA.out HK.out
  by_cases hka : k < a
  · rw [if_pos hka] at HS
    obtain ⟨rfl, rfl⟩ := HSE.out hka
    clear HSE hka
    go_enter Try.func38, Try.ntmps38
    go_wp2_with fail
    rw [← hw1]
    refine HS.out.mono ?_
    rintro e w2 ⟨rfl, ho2⟩
    clear hw1
    go_wp2_with fail
    go_ret3
    exact ⟨rfl, ho1.trans ho2 (Fr.nil _ _)⟩
  · rw [if_neg hka] at HS
    clear HSE hka
    go_enter Try.func38, Try.ntmps38
    go_wp2_with fail
    rw [← hw1]
    refine HS.out.mono ?_
    rintro e w2 ⟨rfl, ho2⟩
    have d1 := ho2.cell b1 (by simp)
    have d2 := ho2.cell b2 (by simp)
    have d3 := ho2.cell c3 (by simp)
    have d4 := ho2.cell c4 (by simp)
    have ho3 := ho1.trans ho2 (Fr.nil _ _)
    clear hw1 h3 h4 hc b1 b2 c3 c4 c5 ho1 ho2
    have hw0 : IntKind.i64.wrap 0 = 0 := by decide
    go_wp2_with fail
    go_region_with ((go_at_call 61; refine (HB.out _ ?_).mono ?_; exact ho3.drew; rintro e w' ⟨rfl, ho4⟩))
    all_goals go_wp2
    all_goals go_ret3
    all_goals exact ⟨rfl, ho3.drew.trans ho4 (Fr.nil _ _)⟩
end Go.Proofs.Ytbjfojdhdjehpaa
