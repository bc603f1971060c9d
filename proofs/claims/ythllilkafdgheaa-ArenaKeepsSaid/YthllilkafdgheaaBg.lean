/- The walk of the law ArenaKeeps. Condition: the arguments read as lists. -/
import Derived.Test.YthllilkafdgheaaBf
namespace Go.Proofs.Ythllilkafdgheaa
open Go.RowKit
set_option linter.unusedVariables false
set_option linter.unusedSimpArgs false

set_option maxHeartbeats 8000000 in
set_option maxRecDepth 100000 in
theorem arenaKeeps_any (cap : Int) (base : Option Addr) (n c : Nat) (l : List OpV) (b : Option Addr) (m mc : Nat) (ds : List Int) (w : World) (hR : ReadsO base n l w) (hD : ReadsI b m ds w) :
    Calls Try.prog 3 #[.int .i64 cap, .slice base n c, .slice b m mc] w fun e w' => e = .returned (.bool true) ∧ Oth [] w w' := by
  have HR := Lib.hid hR
  have HD := Lib.hid hD
  have hm63 : m ≤ 9223372036854775807 := by have := hD.2.1; unfold maxLen at this; omega
  clear hR hD
  go_enter Try.func3, Try.ntmps3
  go_wp2_with fail
  refine (small_any cap base n c l w HR.out).mono ?_
  rintro e w1 ⟨⟨sb, rfl, hsm⟩, ho1⟩
  have HSM := Lib.hid hsm
  clear hsm
  cases sb with
  | false =>
    go_wp2_with fail
    refine (awake_any _).mono ?_
    rintro e w' ⟨rfl, ho⟩
    go_wp2_with fail
    go_ret
    exact ⟨rfl, ho1.trans ho (Fr.nil _ _)⟩
  | true =>
    obtain ⟨hc0, hc3, hl1, hom⟩ := HSM.out rfl
    obtain ⟨cp, rfl⟩ : ∃ q : Nat, cap = q := ⟨cap.toNat, by omega⟩
    have HOM := Lib.hid hom
    have hn100 : n ≤ 100 := by have := HR.out.1; omega
    clear hom hl1
    by_cases hm1 : m < 1
    · have t1 : (m : Int) < 1 := by omega
      clear HSM
      go_wp2_with fail
      refine (awake_any _).mono ?_
      rintro e w' ⟨rfl, ho⟩
      go_wp2_with fail
      go_ret
      exact ⟨rfl, ho1.trans ho (Fr.nil _ _)⟩
    · have t1 : ¬ (m : Int) < 1 := by omega
      by_cases hm2 : cp < m
      · have t2 : (cp : Int) < (m : Int) := by omega
        clear HSM
        go_wp2_with fail
        refine (awake_any _).mono ?_
        rintro e w' ⟨rfl, ho⟩
        go_wp2_with fail
        go_ret
        exact ⟨rfl, ho1.trans ho (Fr.nil _ _)⟩
      · have t2 : ¬ (cp : Int) < (m : Int) := by omega
        clear HSM
        go_wp2_with fail
        refine (Fresh.new w1 cp (by omega)).mono ?_
        rintro e w2 ⟨p, rfl, hf⟩
        have H2 : Hid (Fresh w p (st0 cp) w2) := by
          obtain ⟨S, ha, hS⟩ := hf.ar
          exact ⟨⟨S, ha, fun k hk => Nat.le_trans ho1.size (hS k hk)⟩, hf.good, ho1.trans hf.oth (Fr.nil _ _)⟩
        clear hf ho1
        go_wp2_with fail
        go_loopw [46] (fun x wr => ∃ i : Nat, i ≤ n ∧ x = .int .i64 i ∧ Hid (∃ s, Fresh w p s wr ∧ s.next ≤ i ∧ s.cap = cp)) (fun x _ => (n - intOf x).toNat)
        case atStart => exact ⟨0, by omega, rfl, ⟨_, H2.out, Nat.le_refl _, rfl⟩⟩
        case round =>
          obtain ⟨i, hin, rfl, hs⟩ := hrel
          by_cases hlt : i < n
          · have u1 : (i : Int) < (n : Int) := by omega
            obtain ⟨s, hf, hnx, hsc⟩ := hs.out
            obtain ⟨o, hav⟩ : ∃ p, l[i]? = some p := ⟨_, List.getElem?_eq_getElem (by have := HR.out.1; omega)⟩
            obtain ⟨⟨g, off, rfl, c1, c2, c3⟩, hwf, hrd⟩ := (HR.out.oth hf.oth).2.2 i _ hav
            have hgl : g < wr.heap.size := World.block_lt_of_cell? wr _ c1
            obtain ⟨q1, q2, q3⟩ := hf.beside (opc o)
            have HGV := Lib.hid ((q1.giveA o.n (by omega)).mono (fun e w' h => h.mv q1))
            have HFR := Lib.hid ((q1.freeA o.n hwf).mono (fun e w' h => h.mv q1))
            unfold opc at q1 q2 q3 HGV HFR
            obtain ⟨ok, hok⟩ : ∃ a, a = o.k := ⟨_, rfl⟩
            obtain ⟨on, hon⟩ : ∃ a, a = o.n := ⟨_, rfl⟩
            obtain ⟨ob, hob⟩ : ∃ a, a = o.b := ⟨_, rfl⟩
            obtain ⟨om, hom⟩ : ∃ a, a = o.m := ⟨_, rfl⟩
            obtain ⟨oc, hoc⟩ : ∃ a, a = o.c := ⟨_, rfl⟩
            rw [← hok, ← hon, ← hob, ← hom, ← hoc] at q1 q2 q3 HGV HFR
            rw [← hok] at c1
            rw [← hon] at c2
            rw [← hob, ← hom, ← hoc] at c3
            have Q1 := Lib.hid q1
            have Q2 := Lib.hid q2
            have Q3 := Lib.hid q3
            have HNX := Lib.hid hnx
            have HSC := Lib.hid hsc
            clear hf hnx hsc hav hwf hrd q1 q2 q3 hok hon hob hom hoc
            by_cases hk1 : ok = 1
            · subst hk1
              go_wp2_with fail
              refine HGV.out.mono ?_
              rintro e w3 ⟨s', hs', ⟨a, er, rfl⟩, hf', hmv⟩
              have hh := (hmv.bes Q2.out).2.trans Q3.out
              have d0 : w3.cell? ⟨wr.heap.size, 0, none⟩ = some (.int .i64 1) := by simp only [World.cell?, hh]; rfl
              have HN : Hid (∃ s, Fresh w p s w3 ∧ s.next ≤ i + 1 ∧ s.cap = cp) := by
                refine ⟨s', hf', ?_, ?_⟩
                · rcases hs' with rfl | ⟨m, hg⟩
                  · have := HNX.out; omega
                  · have := HNX.out; have := hg.next.1; omega
                · rcases hs' with rfl | ⟨m, hg⟩
                  · exact HSC.out
                  · rw [hg.next.2]; exact HSC.out
              clear hf' hmv hh hs'
              go_wp2_with fail
              go_roundw
              case rel => exact ⟨i + 1, by omega, by go_num, HN⟩
              case measure => simp [intOf]; omega
            · by_cases hk2 : ok = 2
              · subst hk2
                go_wp2_with fail
                refine HFR.out.mono ?_
                rintro e w3 ⟨s', hs', ⟨er, rfl⟩, hf', hmv⟩
                have HN : Hid (∃ s, Fresh w p s w3 ∧ s.next ≤ i + 1 ∧ s.cap = cp) := by
                  refine ⟨s', hf', ?_, ?_⟩
                  · rcases hs' with rfl | ⟨j, x, hx, hk, rfl⟩
                    · have := HNX.out; omega
                    · have := HNX.out; simp only [freed]; omega
                  · rcases hs' with rfl | ⟨j, x, hx, hk, rfl⟩
                    · exact HSC.out
                    · exact HSC.out
                clear hf' hmv hs'
                go_wp2_with fail
                go_roundw
                case rel => exact ⟨i + 1, by omega, by go_num, HN⟩
                case measure => simp [intOf]; omega
              · have HN : Hid (∃ s', Fresh w p s' (wr.alloc (.cells #[.int .i64 ok, .int .i64 on, .slice ob om oc] 31)) ∧ s'.next ≤ i + 1 ∧ s'.cap = cp) := ⟨s, Q1.out, by have := HNX.out; omega, HSC.out⟩
                go_wp2_with fail
                go_roundw
                case rel => exact ⟨i + 1, by omega, by go_num, HN⟩
                case measure => simp [intOf]; omega
          · obtain rfl : i = n := by omega
            have u1 : ¬ (i : Int) < (i : Int) := by omega
            obtain ⟨s, hf, hnx, hsc⟩ := hs.out
            have HGV := Lib.hid (hf.giveA m (by omega))
            have HF := Lib.hid hf
            have HNX := Lib.hid hnx
            have HSC := Lib.hid hsc
            clear hf hnx hsc
            obtain ⟨H, hH⟩ : ∃ H, H = s.next + 1 := ⟨_, rfl⟩
            have HHI : Hid (H = s.next + 1) := hH
            have hHi : ((s.next : Int) + 1) = (H : Int) := by omega
            unfold GaveAny at HGV
            rw [hHi] at HGV
            clear hH hHi
            go_wp2_with fail
            refine HGV.out.mono ?_
            rintro e w3 (⟨rfl, m', s', hm', h1', hle, hg, hf', hmv⟩ | ⟨er, her, rfl, hf', ho'⟩)
            · obtain rfl : m' = m := by omega
              obtain ⟨j, x, hx, hxh, hxn⟩ := hg.at
              have HPU := Lib.hid (hf'.putR (H := H) hx (by rw [hxh, HHI.out]) b m' mc ds hxn.symm HD.out)
              have hs'n : s'.next ≤ i + 1 := by have := hg.next.1; have := HNX.out; omega
              clear hm' h1' hle hg hf' hmv hx hxh hxn
              go_wp2_with fail
              refine HPU.out.mono ?_
              rintro e w4 ⟨rfl, s4, hn4, hh4, hf4, _⟩
              have H4 : Hid (∃ s, Fresh w p s w4 ∧ s.next ≤ 101 ∧ Has s H ds) := ⟨s4, hf4, by omega, hh4⟩
              clear hn4 hh4 hf4 HPU HGV
              go_wp2_with fail
              clear HSC HNX HF HHI
              go_loopw [90] (fun x wr => ∃ k : Nat, k ≤ i ∧ x = .int .i64 k ∧ Hid (∃ s, Fresh w p s wr ∧ s.next ≤ 101 + k ∧ Has s H ds)) (fun x _ => (i - intOf x).toNat)
              case atStart => exact ⟨0, by omega, rfl, H4⟩
              case round =>
                obtain ⟨k, hki, rfl, hs9⟩ := hrel
                by_cases hlt : k < i
                · have u1 : (k : Int) < (i : Int) := by omega
                  obtain ⟨s, hf, hnx, hhas⟩ := hs9.out
                  obtain ⟨o, hav⟩ : ∃ p, l[k]? = some p := ⟨_, List.getElem?_eq_getElem (by have := HR.out.1; omega)⟩
                  obtain ⟨⟨g, off, rfl, c1, c2, c3⟩, hwf, hrd⟩ := (HR.out.oth hf.oth).2.2 k _ hav
                  have hrd0 := (HR.out.2.2 k _ hav).2.2
                  have hom3 := HOM.out k o hav
                  have hgl : g < wr.heap.size := World.block_lt_of_cell? wr _ c1
                  obtain ⟨q1, q2, q3⟩ := hf.beside (opc o)
                  have HGV := Lib.hid ((q1.giveA o.n (by omega)).mono (fun e w' h => h.mv q1))
                  have HFR := Lib.hid ((q1.freeA o.n hwf).mono (fun e w' h => h.mv q1))
                  have HPU := Lib.hid ((q1.putA o.n hwf o.b o.m o.c o.ds (by omega) hrd0).mono (fun e w' h => h.mv q1))
                  unfold opc at q1 q2 q3 HGV HFR HPU
                  obtain ⟨ok, hok⟩ : ∃ a, a = o.k := ⟨_, rfl⟩
                  obtain ⟨on, hon⟩ : ∃ a, a = o.n := ⟨_, rfl⟩
                  obtain ⟨ob, hob⟩ : ∃ a, a = o.b := ⟨_, rfl⟩
                  obtain ⟨om, hom⟩ : ∃ a, a = o.m := ⟨_, rfl⟩
                  obtain ⟨oc, hoc⟩ : ∃ a, a = o.c := ⟨_, rfl⟩
                  rw [← hok, ← hon, ← hob, ← hom, ← hoc] at q1 q2 q3 HGV HFR HPU
                  rw [← hok] at c1
                  rw [← hon] at c2
                  rw [← hob, ← hom, ← hoc] at c3
                  have Q1 := Lib.hid q1
                  have HNX := Lib.hid hnx
                  have HHAS := Lib.hid hhas
                  have HGOOD := Lib.hid hf.good
                  have HN : Hid (∃ s, Fresh w p s (wr.alloc (.cells #[.int .i64 ok, .int .i64 on, .slice ob om oc] 31)) ∧ s.next ≤ 101 + (k + 1) ∧ Has s H ds) := ⟨s, q1, by omega, hhas⟩
                  clear hf hnx hav hwf hrd hrd0 hom3 q1 q2 q3 hok hon hob hom hoc hhas hs9
                  have key : ok = 1 ∨ (ok = 2 ∧ ¬ on = (H : Int)) ∨ (ok = 2 ∧ on = (H : Int)) ∨ (ok = 3 ∧ ¬ on = (H : Int)) ∨ (ok = 3 ∧ on = (H : Int)) ∨ (¬ ok = 1 ∧ ¬ ok = 2 ∧ ¬ ok = 3) := by omega
                  rcases key with rfl | ⟨rfl, hoh⟩ | ⟨rfl, rfl⟩ | ⟨rfl, hoh⟩ | ⟨rfl, rfl⟩ | ⟨hk1, hk2, hk3⟩
                  case' inl =>
                    clear HN HFR HPU
                    go_wp2_with fail
                    refine HGV.out.mono ?_
                    rintro e w3 ⟨s', hs', ⟨a, er, rfl⟩, hf', hmv⟩
                    have HN : Hid (∃ s, Fresh w p s w3 ∧ s.next ≤ 101 + (k + 1) ∧ Has s H ds) := by
                      rcases hs' with rfl | ⟨m, hg⟩
                      · exact ⟨_, hf', by have := HNX.out; omega, HHAS.out⟩
                      · exact ⟨_, hf', by have := HNX.out; have := hg.next.1; omega, HHAS.out.given hg⟩
                    clear hf' hmv hs' HGV Q1 HNX HHAS HGOOD
                    go_wp2_with fail
                  case' inr.inl =>
                    clear HN HGV HPU
                    go_wp2_with fail
                    refine HFR.out.mono ?_
                    rintro e w3 ⟨s', hs', ⟨er, rfl⟩, hf', hmv⟩
                    have HN : Hid (∃ s, Fresh w p s w3 ∧ s.next ≤ 101 + (k + 1) ∧ Has s H ds) := by
                      rcases hs' with rfl | ⟨j, x, hx, hk, rfl⟩
                      · exact ⟨_, hf', by have := HNX.out; omega, HHAS.out⟩
                      · exact ⟨_, hf', by have := HNX.out; simp only [freed]; omega, HHAS.out.freed HGOOD.out hx (fun e => hoh (by rw [hk, e]))⟩
                    clear hf' hmv hs' HFR Q1 HNX HHAS HGOOD
                    go_wp2_with fail
                  case' inr.inr.inl =>
                    clear HGV HFR HPU Q1 HNX HHAS HGOOD
                    go_wp2_with fail
                    obtain ⟨w3, hw3⟩ : ∃ w3, w3 = wr.alloc (.cells #[.int .i64 2, .int .i64 (H : Int), .slice ob om oc] 31) := ⟨_, rfl⟩
                    rw [← hw3] at HN ⊢
                    clear hw3
                  case' inr.inr.inr.inl =>
                    clear HN HGV HFR
                    go_wp2_with fail
                    refine HPU.out.mono ?_
                    rintro e w3 ⟨s', hs', ⟨er, rfl⟩, hf', hmv⟩
                    have HN : Hid (∃ s, Fresh w p s w3 ∧ s.next ≤ 101 + (k + 1) ∧ Has s H ds) := by
                      rcases hs' with rfl | ⟨j, x, hx, hk, rfl⟩
                      · exact ⟨_, hf', by have := HNX.out; omega, HHAS.out⟩
                      · exact ⟨_, hf', by have := HNX.out; simp only [wrote]; omega, HHAS.out.wrote hx (fun e => hoh (by rw [hk, e]))⟩
                    clear hf' hmv hs' HPU Q1 HNX HHAS HGOOD
                    go_wp2_with fail
                  case' inr.inr.inr.inr.inl =>
                    clear HGV HFR HPU Q1 HNX HHAS HGOOD
                    go_wp2_with fail
                    obtain ⟨w3, hw3⟩ : ∃ w3, w3 = wr.alloc (.cells #[.int .i64 3, .int .i64 (H : Int), .slice ob om oc] 31) := ⟨_, rfl⟩
                    rw [← hw3] at HN ⊢
                    clear hw3
                  case' inr.inr.inr.inr.inr =>
                    clear HGV HFR HPU Q1 HNX HHAS HGOOD
                    go_wp2_with fail
                    obtain ⟨w3, hw3⟩ : ∃ w3, w3 = wr.alloc (.cells #[.int .i64 ok, .int .i64 on, .slice ob om oc] 31) := ⟨_, rfl⟩
                    rw [← hw3] at HN ⊢
                    clear hw3
                  all_goals
                    obtain ⟨s5, hf5, hn5, hh5⟩ := HN.out
                    have HGE := Lib.hid (hf5.getHas hh5 HD.out.1 HD.out.2.2.1)
                    have HN5 := Lib.hid hn5
                    have HH5 := Lib.hid hh5
                    clear hf5 hn5 hh5
                    refine HGE.out.mono ?_
                    rintro e w6 ⟨gb, gc, rfl, hr6, hf6, ho6⟩
                    have HR6 := Lib.hid hr6
                    have HF6 := Lib.hid hf6
                    have HO6 := Lib.hid ho6
                    clear hr6 hf6 ho6
                    go_wp2_with fail
                    refine (plain_any b m' mc ds w6 (HD.out.oth HF6.out.oth) (by omega)).mono ?_
                    rintro e w7 ⟨v7, rfl, hown7, ho7⟩
                    obtain ⟨b7, c7, rfl, hr7⟩ := owns_reads hown7 HD.out.2.1 HD.out.2.2.1
                    have HR7 := Lib.hid hr7
                    have HR67 := Lib.hid (HR6.out.oth ho7)
                    have HN7 : Hid (∃ s, Fresh w p s w7 ∧ s.next ≤ 101 + (k + 1) ∧ Has s H ds) := ⟨_, HF6.out.quiet ho7, HN5.out, HH5.out⟩
                    clear hown7 ho7 hr7
                    go_wp2_with fail
                    refine (same_any _ _ m' gc c7 ds w7 HR67.out HR7.out (by omega)).mono ?_
                    rintro e w8 ⟨rfl, ho8⟩
                    have HN8 : Hid (∃ s, Fresh w p s w8 ∧ s.next ≤ 101 + (k + 1) ∧ Has s H ds) := by
                      obtain ⟨s7, h1, h2, h3⟩ := HN7.out
                      exact ⟨s7, h1.quiet ho8, h2, h3⟩
                    clear ho8
                    go_wp2_with fail
                    go_roundw
                    case rel => exact ⟨k + 1, by omega, by go_num, HN8⟩
                    case measure => simp [intOf]; omega
                · obtain rfl : k = i := by omega
                  have u1 : ¬ (k : Int) < (k : Int) := by omega
                  obtain ⟨s5, hf5, hn5, hh5⟩ := hs9.out
                  have HO := Lib.hid hf5.oth
                  clear hf5 hn5 hh5
                  go_wp2_with fail
                  refine (awake_any _).mono ?_
                  rintro e w' ⟨rfl, ho⟩
                  go_wp2_with fail
                  go_ret
                  exact ⟨rfl, HO.out.trans ho (Fr.nil _ _)⟩
            · have hlv := hf'.live
              have hpk := hf'.good.peak
              have h5 : s.cap < s.live + m := by
                rcases her with ⟨_, h⟩ | ⟨_, h⟩
                · have := HSC.out; omega
                · omega
              have hsc := HSC.out
              have er0 : ¬ er = 0 := by rcases her with ⟨rfl, _⟩ | ⟨rfl, _⟩ <;> decide
              obtain ⟨lv, hlv'⟩ : ∃ a, a = s.live := ⟨_, rfl⟩
              rw [← hlv'] at hlv h5 hpk
              have v1 : (cp : Int) < (lv : Int) + (m : Int) := by omega
              have v2 : IntKind.i64.wrap ((lv : Int) + (m : Int)) = (lv : Int) + (m : Int) := by rw [IntKind.wrap_i64]; omega
              have HLV := Lib.hid hlv
              have HF' := Lib.hid hf'
              clear hlv hpk hsc h5 hlv' her hf' ho'
              go_wp2_with fail
              refine HLV.out.mono ?_
              rintro e w4 ⟨rfl, rfl⟩
              go_wp2_with fail
              refine (awake_any _).mono ?_
              rintro e w' ⟨rfl, ho⟩
              go_wp2_with fail
              go_ret
              exact ⟨rfl, HF'.out.oth.trans ho (Fr.nil _ _)⟩

theorem arenaKeeps_walk (cap : Int) (base : Option Addr) (n c : Nat) (l : List OpV) (b : Option Addr) (m mc : Nat) (ds : List Int) (w0 : (Lit.int .i64 cap).wf = true) {w : World} (hR : ReadsO base n l w) (hD : ReadsI b m ds w) (W : World) (hW : W = w := by rfl) :
    Calls Try.prog 3 #[.int .i64 cap, .slice base n c, .slice b m mc] W fun e w' => e = .returned (.bool true) ∧ Below W.heap.size W w' := by
  subst hW
  refine (arenaKeeps_any cap base n c l b m mc ds W hR hD).mono ?_
  rintro e w' ⟨rfl, ho⟩
  exact ⟨rfl, ho.below (Nat.le_refl _) (by simp)⟩
end Go.Proofs.Ythllilkafdgheaa
