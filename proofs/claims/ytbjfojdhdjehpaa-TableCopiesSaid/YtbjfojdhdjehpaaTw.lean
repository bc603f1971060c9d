/- The walk of step: one call of a table and of the list of pairs; they agree. Condition: fewer than 255 entries. -/
import Derived.Test.YtbjfojdhdjehpaaTr
import Derived.Deep.RegionHeld3
namespace Go.Proofs.Ytbjfojdhdjehpaa
open Go.RowKit
set_option linter.unusedVariables false
set_option linter.unusedSimpArgs false

theorem Hold.tail {w0 : World} {p : Nat} {L : List (Int × ByteArray)} {v : Value} {x : List (Int × ByteArray)} {q : Nat × Obj} {E : List (Nat × Obj)} {w : World} (h : Hold w0 p L v x (q :: E) w) : Hold w0 p L v x E w := by
  obtain ⟨S, B, h1, h2, h3, h4, h5⟩ := h
  exact ⟨S, B, h1, h2, h3, ⟨h4.1, fun r hr => h4.2 r (List.mem_cons_of_mem _ hr)⟩, h5⟩
/-- A store into a box that lies apart. -/
theorem Hold.store {w0 : World} {p : Nat} {L : List (Int × ByteArray)} {v : Value} {x : List (Int × ByteArray)} {xb : Nat} {u : Value} {t : TypeId} {w : World} (h : Hold w0 p L v x [(xb, .cells #[u] t (0, 0))] w) (hx : w0.heap.size ≤ xb) (u' : Value) :
    Hold w0 p L v x [(xb, .cells #[u'] t (0, 0))] (w.setCell ⟨xb, 0, none⟩ u') := by
  obtain ⟨S, B, h1, h2, h3, h4, h5⟩ := h
  have hb := h4.2 (xb, .cells #[u] t (0, 0)) (by simp)
  have ho : Oth [xb] w (w.setCell ⟨xb, 0, none⟩ u') := (Oth.refl _ _).setCell (.inl (by simp)) _
  refine ⟨S, B.filter (fun k => decide (k ≠ xb)), h1.oth ho (fun k hk => by simp; rintro rfl; exact hb.1 hk), ?_, h3, ⟨fun k hk => ?_, fun q hq => ?_⟩, h5.setCell (.inr hx) _⟩
  · obtain ⟨b, cap, rfl, hc⟩ := h2
    refine ⟨b, cap, rfl, fun i k s hi => ?_⟩
    obtain ⟨g, hg, hgB, c1, c2⟩ := hc i k s hi
    have hne : g ≠ xb := by
      rintro rfl
      have := hb.2
      simp only [World.cell?, this] at c2
      rw [Array.getElem?_eq_none (by simp)] at c2
      cases c2
    exact ⟨g, hg, by simp [hgB, hne], ho.cell c1 (by simpa using hne), ho.cell c2 (by simpa using hne)⟩
  · simp at hk
    exact ⟨(h4.1 k hk.1).1, Nat.lt_of_lt_of_le (h4.1 k hk.1).2 ho.size⟩
  · simp at hq
    subst hq
    exact ⟨hb.1, one_set0 hb.2⟩
/-- What step hands back: a list and true; table and list agree again. -/
def Stepped (w0 : World) (p n : Nat) (E0 : List (Nat × Obj)) (e : Ending) (w' : World) : Prop :=
  ∃ v' L' x', e = .returned (.tuple #[v', .bool true]) ∧ Hold w0 p L' v' x' E0 w' ∧ Like x' L' ∧ L'.length ≤ n + 1

set_option maxRecDepth 100000 in
set_option maxHeartbeats 4000000 in
theorem step_any (w0 : World) (p : Nat) (v : Value) (L x : List (Int × ByteArray)) (a k : Int) (s : ByteArray) (E0 : List (Nat × Obj)) (w : World) (hh : Hold w0 p L v x E0 w) (hl : Like x L) (h1 : L.length < 255) :
    Calls Try.prog 17 #[.pointer (some ⟨p, 0, none⟩), v, .agg #[.int .i64 a, .int .i64 k, .string s]] w fun e w' => Stepped w0 p L.length E0 e w' := by
  have hx1 : x.length < 256 := by rw [hl.len]; omega
  have hsl : ∃ b cp, v = .slice b x.length cp := by
    obtain ⟨B, ⟨b, cp, he, _⟩, _⟩ := hh.rp
    exact ⟨b, cp, he⟩
  obtain ⟨b, cp, rfl⟩ := hsl
  have HH := Lib.hid hh
  have HL := Lib.hid hl
  clear hh hl
  go_enter Try.func17, Try.ntmps17
  go_wp2_with fail
  have HO1 := Lib.hid (HH.out.more (.cells #[.int .i64 a, .int .i64 k, .string s] 38 (0, 0)))
  obtain ⟨W, hW⟩ : ∃ W, W = w.alloc (.cells #[.int .i64 a, .int .i64 k, .string s] 38 (0, 0)) := ⟨_, rfl⟩
  rw [← hW] at HO1
  rw [← hW]
  clear hW
  have hob := HO1.out.at (g := w.heap.size) (o := .cells #[.int .i64 a, .int .i64 k, .string s] 38 (0, 0)) (by simp)
  have o0 : W.cell? ⟨w.heap.size, 0, none⟩ = some (.int .i64 a) := by simp [World.cell?, hob]
  have o1 : W.cell? ⟨w.heap.size, 1, none⟩ = some (.int .i64 k) := by simp [World.cell?, hob]
  have o2 : W.cell? ⟨w.heap.size, 2, none⟩ = some (.string s) := by simp [World.cell?, hob]
  clear hob
  refine (HO1.out.findx k hx1).mono ?_
  rintro e w1 ⟨⟨z, rfl, hz⟩, rfl⟩
  have HC : Hid (∀ i k s, x[i]? = some (k, s) → ∃ g, b = some ⟨g, 0, none⟩ ∧ W.cell? ⟨g, i * 2, none⟩ = some (.int .i64 k) ∧ W.cell? ⟨g, i * 2 + 1, none⟩ = some (.string s)) := fun i k s hi => by
    obtain ⟨B, ⟨b', cp', he, hc⟩, _⟩ := HO1.out.rp
    injection he with e1
    subst e1
    obtain ⟨g, hg, _, c1, c2⟩ := hc i k s hi
    exact ⟨g, hg, c1, c2⟩
  obtain ⟨m, hm⟩ : ∃ m, m = x.length := ⟨_, rfl⟩
  have HM := Lib.hid hm
  rw [← hm] at hx1 HO1
  rw [← hm]
  have HX1 : Hid (x.length < 256) := by rw [← HM.out]; exact hx1
  have HL1 : Hid (L.length < 256) := by show _ < _; omega
  have HL2 : Hid (L.length < 255) := h1
  obtain ⟨E, hE⟩ : ∃ E : List (Nat × Obj), E = (w.heap.size, .cells #[.int .i64 a, .int .i64 k, .string s] 38 (0, 0)) :: E0 := ⟨_, rfl⟩
  have HCE : Hid (∀ (M : List (Int × ByteArray)) u y w', Hold w0 p M u y E w' → w'.cell? ⟨w.heap.size, 1, none⟩ = some (.int .i64 k) ∧ w'.cell? ⟨w.heap.size, 2, none⟩ = some (.string s)) := fun M u y w' h => by
    have hob := h.at (g := w.heap.size) (o := .cells #[.int .i64 a, .int .i64 k, .string s] 38 (0, 0)) (by rw [hE]; simp)
    exact ⟨by simp [World.cell?, hob], by simp [World.cell?, hob]⟩
  have HTL : Hid (∀ (M : List (Int × ByteArray)) u y w', Hold w0 p M u y E w' → Hold w0 p M u y E0 w') := fun M u y w' h => by rw [hE] at h; exact h.tail
  rw [← hE] at HO1
  clear hE
  have HSX : Hid (Calls Try.prog 13 #[.slice b m cp, .int .i64 k, .string s] W.drew fun e w' => ∃ v', e = .returned v' ∧ Hid (Hold w0 p L v' (setP k s x) E w') ∧ w'.cell? ⟨w.heap.size, 1, none⟩ = some (.int .i64 k) ∧ w'.cell? ⟨w.heap.size, 2, none⟩ = some (.string s)) := by
    refine ((HO1.out.still ((Oth.refl _ _).drew)).setx k s HX1.out).mono ?_
    rintro e w' ⟨v', rfl, h⟩
    exact ⟨v', rfl, h, HCE.out _ _ _ _ h⟩
  have HST : ∀ v' w', Hid (Hold w0 p L v' (setP k s x) E w') → Hid (Calls Try.prog 12 #[.pointer (some ⟨p, 0, none⟩), .int .i64 k, .string s] w' fun e w'' => e = .returned (.bool (!hasK k L)) ∧ Hid (Hold w0 p (putK k s L) v' (setP k s x) E w'') ∧ w''.cell? ⟨w.heap.size, 1, none⟩ = some (.int .i64 k) ∧ w''.cell? ⟨w.heap.size, 2, none⟩ = some (.string s)) := fun v' w' h => by
    refine (h.out.Set k s HL.out.1 HL1.out).mono ?_
    rintro e w'' ⟨rfl, h⟩
    exact ⟨rfl, h, HCE.out _ _ _ _ h⟩
  have HGT : Hid (Calls Try.prog 21 #[.pointer (some ⟨p, 0, none⟩), .int .i64 k] W fun e w' => e = .returned (.tuple #[.string (getK ⟨#[]⟩ k L), .bool (hasK k L)]) ∧ Hid (Hold w0 p L (.slice b m cp) x E w') ∧ w'.cell? ⟨w.heap.size, 1, none⟩ = some (.int .i64 k)) := by
    refine (HO1.out.Get k HL.out.1 HL1.out).mono ?_
    rintro e w' ⟨rfl, h⟩
    exact ⟨rfl, h, (HCE.out _ _ _ _ h).1⟩
  have HHS : ∀ w', Hid (Hold w0 p L (.slice b m cp) x E w') → Hid (Calls Try.prog 34 #[.pointer (some ⟨p, 0, none⟩), .int .i64 k] w' fun e w'' => e = .returned (.bool (hasK k L)) ∧ Hid (Hold w0 p L (.slice b m cp) x E w'') ∧ w''.cell? ⟨w.heap.size, 1, none⟩ = some (.int .i64 k)) := fun w' h => by
    refine (h.out.Has k HL.out.1 HL1.out).mono ?_
    rintro e w'' ⟨rfl, h⟩
    exact ⟨rfl, h, (HCE.out _ _ _ _ h).1⟩
  have HDL : Hid (Calls Try.prog 35 #[.pointer (some ⟨p, 0, none⟩), .int .i64 k] W fun e w' => e = .returned (.tuple #[.string (getK ⟨#[]⟩ k L), .bool (hasK k L)]) ∧ Hid (Hold w0 p (outK k L) (.slice b m cp) x E w') ∧ w'.cell? ⟨w.heap.size, 1, none⟩ = some (.int .i64 k)) := by
    refine (HO1.out.Del k HL.out.1 HL1.out).mono ?_
    rintro e w' ⟨rfl, h⟩
    exact ⟨rfl, h, (HCE.out _ _ _ _ h).1⟩
  have HDX : ∀ w', Hid (Hold w0 p (outK k L) (.slice b m cp) x E w') → Hid (Calls Try.prog 31 #[.slice b m cp, .int .i64 k] w' fun e w'' => ∃ v', e = .returned v' ∧ Hid (Hold w0 p (outK k L) v' (delP k x) E w'')) := fun w' h => by
    exact h.out.delx k HX1.out
  obtain ⟨hk, hhk⟩ : ∃ hk, hk = hasK k L := ⟨_, rfl⟩
  obtain ⟨want, hwant⟩ : ∃ want, want = getK ⟨#[]⟩ k L := ⟨_, rfl⟩
  rw [← hhk] at HST HGT HHS HDL
  rw [← hwant] at HGT HDL
  have HK := Lib.hid hhk
  have HW := Lib.hid hwant
  have F1 : Hid (∀ v' w', Hold w0 p (putK k s L) v' (setP k s x) E w' → Stepped w0 p L.length E0 (.returned (.tuple #[v', .bool true])) w') := fun v' w' h =>
    ⟨v', _, _, rfl, HTL.out _ _ _ _ h, HL.out.put k s, len_putK k s L⟩
  have F2 : Hid (∀ w', Hold w0 p L (.slice b m cp) x E w' → Stepped w0 p L.length E0 (.returned (.tuple #[.slice b m cp, .bool true])) w') := fun w' h =>
    ⟨_, _, _, rfl, HTL.out _ _ _ _ h, HL.out, by omega⟩
  have F3 : Hid (∀ v' w', Hold w0 p (outK k L) v' (delP k x) E w' → Stepped w0 p L.length E0 (.returned (.tuple #[v', .bool true])) w') := fun v' w' h =>
    ⟨v', _, _, rfl, HTL.out _ _ _ _ h, HL.out.del k, by have := (HL.out.del k).len; have := len_delP k x; have := HL.out.len; omega⟩
  have hz2 : (z = -1 ∧ hk = false ∧ want = ⟨#[]⟩) ∨ ∃ i t, z = (i : Nat) ∧ x[i]? = some (k, t) ∧ hk = true ∧ want = t := by
    rcases hz with ⟨rfl, hz⟩ | ⟨i, t, rfl, hz⟩
    · obtain ⟨hk1, hk2⟩ := HL.out.hasnt hz
      exact .inl ⟨rfl, by rw [hhk, hk1], by rw [hwant, hk2]⟩
    · obtain ⟨hk1, hk2⟩ := HL.out.has hz
      exact .inr ⟨i, t, rfl, hz, by rw [hhk, hk1], by rw [hwant, hk2]⟩
  have hz3 : (z = -1 ∧ hk = false ∧ want = ⟨#[]⟩) ∨ ∃ i g : Nat, z = (i : Int) ∧ i < m ∧ b = some ⟨g, 0, none⟩ ∧ hk = true ∧ W.cell? ⟨g, i * 2 + 1, none⟩ = some (.string want) := by
    rcases hz2 with h | ⟨i, t, h1, h2, h3, h4⟩
    · exact .inl h
    · obtain ⟨g, hg, c1, c2⟩ := HC.out i k t h2
      exact .inr ⟨i, g, h1, by have := (List.getElem?_eq_some_iff.1 h2).1; omega, hg, h3, by rw [h4]; exact c2⟩
  clear hz hz2 hhk hwant hm h1
  rcases hz3 with ⟨rfl, rfl, rfl⟩ | ⟨i, g, rfl, him, rfl, rfl, cw⟩
  · skip
    by_cases a1 : a = 1
    · subst a1
      go_wp2_with fail
      go_region_held3 (fun w' => w'.cell? ⟨w.heap.size, 1, none⟩ = some (.int .i64 k) ∧ w'.cell? ⟨w.heap.size, 2, none⟩ = some (.string s)) (first | exact ⟨o1, o2⟩ | exact ⟨q1, q2⟩ | exact ⟨q3, q4⟩)
        (first
          | (go_at_call 13; refine HSX.out.mono ?_; rintro e w2 ⟨v', rfl, hh2, q1, q2⟩)
          | (go_at_call 12; refine (HST _ _ hh2).out.mono ?_; rintro e w3 ⟨rfl, hh3, q3, q4⟩))
      go_wp2_with fail
      go_ret2
      exact F1.out _ _ hh3.out
    by_cases a2 : a = 2
    · subst a2
      go_wp2_with fail
      refine HGT.out.mono ?_
      rintro e w2 ⟨rfl, hh2, q1⟩
      go_wp2_with fail
      refine (HHS _ hh2).out.mono ?_
      rintro e w3 ⟨rfl, hh3, q2⟩
      go_wp2_with fail
      go_ret2
      exact F2.out _ hh3.out
    by_cases a3 : a = 3
    · subst a3
      go_wp2_with fail
      refine HDL.out.mono ?_
      rintro e w2 ⟨rfl, hh2, q1⟩
      go_wp2_with fail
      refine (HDX _ hh2).out.mono ?_
      rintro e w3 ⟨v', rfl, hh3⟩
      go_wp2_with fail
      go_ret2
      exact F3.out _ _ hh3.out
    by_cases a4 : a = 4
    · subst a4
      cases hL : L with
      | nil =>
        have hm0 : m = 0 := by rw [HM.out, HL.out.len, hL]; rfl
        have HO2 := HO1.out
        rw [hL] at HO2
        have HP := Lib.hid HO2.Pop0
        have HFN := F2.out
        rw [hL] at HFN
        have HFN' := Lib.hid HFN
        have HO2' := Lib.hid HO2
        clear HO2 HFN HSX HST HGT HHS HDL HDX F1 F2 F3 HCE
        subst hm0
        go_wp2_with fail
        refine HP.out.mono ?_
        rintro e w2 ⟨rfl, rfl⟩
        go_wp2_with fail
        go_ret2
        rw [hL]
        exact HFN'.out _ HO2'.out
      | cons pr r =>
        obtain ⟨k0, s0⟩ := pr
        have HL' := HL.out
        have HO2 := HO1.out
        rw [hL] at HO2 HL'
        have hm0 : 0 < m := by rw [HM.out, HL'.len]; simp
        have hr255 : r.length < 255 := by have := HL2.out; rw [hL] at this; simp at this; omega
        have HP : Hid (Calls Try.prog 15 #[.pointer (some ⟨p, 0, none⟩)] W fun e w' => e = .returned (.tuple #[.int .i64 k0, .string s0, .bool true]) ∧ Hid (Hold w0 p r (.slice b m cp) x E w')) := HO2.Pop (by omega)
        have HS : ∀ w', Hid (Hold w0 p r (.slice b m cp) x E w') → Hid (Calls Try.prog 14 #[.slice b m cp] w' fun e w'' => ∃ g2 c2, e = .returned (.slice (some ⟨g2, 0, none⟩) (r.length + 1) c2) ∧ w''.cell? ⟨g2, 0, none⟩ = some (.int .i64 k0) ∧ w''.cell? ⟨g2, 1, none⟩ = some (.string s0) ∧ Hid (Hold w0 p r (.slice b m cp) x E w'')) := fun w' h => by
          refine (h.out.sorted HL' HX1.out).mono ?_
          rintro e w'' ⟨v', rfl, _, h2, h3⟩
          obtain ⟨g2, c2, rfl, _, hr⟩ := row_of_owns h2 (by simp)
          exact ⟨g2, c2, rfl, hr.cell rfl, hr.cell rfl, h.out.still h3⟩
        have HDD : ∀ w', Hid (Hold w0 p r (.slice b m cp) x E w') → Hid (Calls Try.prog 31 #[.slice b m cp, .int .i64 k0] w' fun e w'' => ∃ v', e = .returned v' ∧ Hid (Stepped w0 p (r.length + 1) E0 (.returned (.tuple #[v', .bool true])) w'' ∧ Oth [] w' w'')) := fun w' h => by
          obtain ⟨B, hB, _⟩ := h.out.rp
          refine (Del_own _ x B k0 w' hB (by have := HX1.out; omega)).mono ?_
          rintro e w'' ⟨v', rfl, h2, h3⟩
          exact ⟨v', rfl, ⟨v', _, _, rfl, HTL.out _ _ _ _ (h.out.list h3 h2), HL'.tail, by omega⟩, h3⟩
        obtain ⟨n1, hn1⟩ : ∃ n1, n1 = r.length := ⟨_, rfl⟩
        rw [← hn1] at HS HDD hr255
        have HN1 := Lib.hid hn1
        have tm : ¬ ((m : Int) = 0) := by omega
        clear HO2 HL' HSX HST HGT HHS HDL HDX F1 F2 F3 HCE HO1 hn1
        go_wp2_with fail
        refine HP.out.mono ?_
        rintro e w2 ⟨rfl, hh2⟩
        go_wp2_with fail
        refine (HS _ hh2).out.mono ?_
        rintro e w3 ⟨g2, c2, rfl, q1, q2, hh3⟩
        go_wp2_with fail
        obtain ⟨W5, hW5⟩ : ∃ W5, W5 = w3.alloc (.cells #[.int .i64 k0, .string s0] 43) := ⟨_, rfl⟩
        have ho5 : Oth [] w3 W5 := by rw [hW5]; exact (Oth.refl _ _).alloc _
        have r1 : W5.cell? ⟨w3.heap.size, 0, none⟩ = some (.int .i64 k0) := by rw [hW5]; exact World.cell?_alloc_at _ _ w3.heap.size 0 rfl
        have r2 : W5.cell? ⟨w3.heap.size, 1, none⟩ = some (.string s0) := by rw [hW5]; exact World.cell?_alloc_at _ _ w3.heap.size 1 rfl
        rw [← hW5]
        have HD5 := (HDD _ (hh3.out.still ((ho5.trans ((Oth.refl [] W5).drew) (Fr.nil _ _)))))
        clear hW5 HDD HS HP q1 q2
        go_region_held3 (fun w' => w'.cell? ⟨w3.heap.size, 0, none⟩ = some (.int .i64 k0) ∧ w'.cell? ⟨w3.heap.size, 1, none⟩ = some (.string s0)) (first | exact ⟨r1, r2⟩ | exact ⟨r3, r4⟩)
          (first | (go_at_call 31; refine HD5.out.mono ?_; rintro e w6 ⟨v', rfl, hfin⟩; have r3 := hfin.out.2.cell (p := ⟨w3.heap.size, 0, none⟩) r1 (by simp); have r4 := hfin.out.2.cell (p := ⟨w3.heap.size, 1, none⟩) r2 (by simp)))
        go_wp2_with fail
        go_ret2
        rw [hL]
        rw [HN1.out] at *
        exact hfin.out.1
    · go_wp2_with fail
      go_ret2
      exact F2.out _ HO1.out
  · have t1 : ¬ (i : Int) < 0 := by omega
    have t2 : (0 : Int) ≤ (i : Int) := by omega
    have t3 : (i : Int) < (m : Int) := by omega
    by_cases a1 : a = 1
    · subst a1
      go_wp2_with fail
      go_region_held3 (fun w' => w'.cell? ⟨w.heap.size, 1, none⟩ = some (.int .i64 k) ∧ w'.cell? ⟨w.heap.size, 2, none⟩ = some (.string s)) (first | exact ⟨o1, o2⟩ | exact ⟨q1, q2⟩ | exact ⟨q3, q4⟩)
        (first
          | (go_at_call 13; refine HSX.out.mono ?_; rintro e w2 ⟨v', rfl, hh2, q1, q2⟩)
          | (go_at_call 12; refine (HST _ _ hh2).out.mono ?_; rintro e w3 ⟨rfl, hh3, q3, q4⟩))
      go_wp2_with fail
      go_ret2
      exact F1.out _ _ hh3.out
    by_cases a2 : a = 2
    · subst a2
      go_wp2_with fail
      refine HGT.out.mono ?_
      rintro e w2 ⟨rfl, hh2, q1⟩
      go_wp2_with fail
      refine (HHS _ hh2).out.mono ?_
      rintro e w3 ⟨rfl, hh3, q2⟩
      go_wp2_with fail
      go_ret2
      exact F2.out _ hh3.out
    by_cases a3 : a = 3
    · subst a3
      go_wp2_with fail
      refine HDL.out.mono ?_
      rintro e w2 ⟨rfl, hh2, q1⟩
      go_wp2_with fail
      refine (HDX _ hh2).out.mono ?_
      rintro e w3 ⟨v', rfl, hh3⟩
      go_wp2_with fail
      go_ret2
      exact F3.out _ _ hh3.out
    by_cases a4 : a = 4
    · subst a4
      cases hL : L with
      | nil =>
        have hm0 : m = 0 := by rw [HM.out, HL.out.len, hL]; rfl
        omega
      | cons pr r =>
        obtain ⟨k0, s0⟩ := pr
        have HL' := HL.out
        have HO2 := HO1.out
        rw [hL] at HO2 HL'
        have hm0 : 0 < m := by rw [HM.out, HL'.len]; simp
        have hr255 : r.length < 255 := by have := HL2.out; rw [hL] at this; simp at this; omega
        have HP : Hid (Calls Try.prog 15 #[.pointer (some ⟨p, 0, none⟩)] W fun e w' => e = .returned (.tuple #[.int .i64 k0, .string s0, .bool true]) ∧ Hid (Hold w0 p r (.slice (some ⟨g, 0, none⟩) m cp) x E w')) := HO2.Pop (by omega)
        have HS : ∀ w', Hid (Hold w0 p r (.slice (some ⟨g, 0, none⟩) m cp) x E w') → Hid (Calls Try.prog 14 #[.slice (some ⟨g, 0, none⟩) m cp] w' fun e w'' => ∃ g2 c2, e = .returned (.slice (some ⟨g2, 0, none⟩) (r.length + 1) c2) ∧ w''.cell? ⟨g2, 0, none⟩ = some (.int .i64 k0) ∧ w''.cell? ⟨g2, 1, none⟩ = some (.string s0) ∧ Hid (Hold w0 p r (.slice (some ⟨g, 0, none⟩) m cp) x E w'')) := fun w' h => by
          refine (h.out.sorted HL' HX1.out).mono ?_
          rintro e w'' ⟨v', rfl, _, h2, h3⟩
          obtain ⟨g2, c2, rfl, _, hr⟩ := row_of_owns h2 (by simp)
          exact ⟨g2, c2, rfl, hr.cell rfl, hr.cell rfl, h.out.still h3⟩
        have HDD : ∀ w', Hid (Hold w0 p r (.slice (some ⟨g, 0, none⟩) m cp) x E w') → Hid (Calls Try.prog 31 #[.slice (some ⟨g, 0, none⟩) m cp, .int .i64 k0] w' fun e w'' => ∃ v', e = .returned v' ∧ Hid (Stepped w0 p (r.length + 1) E0 (.returned (.tuple #[v', .bool true])) w'' ∧ Oth [] w' w'')) := fun w' h => by
          obtain ⟨B, hB, _⟩ := h.out.rp
          refine (Del_own _ x B k0 w' hB (by have := HX1.out; omega)).mono ?_
          rintro e w'' ⟨v', rfl, h2, h3⟩
          exact ⟨v', rfl, ⟨v', _, _, rfl, HTL.out _ _ _ _ (h.out.list h3 h2), HL'.tail, by omega⟩, h3⟩
        obtain ⟨n1, hn1⟩ : ∃ n1, n1 = r.length := ⟨_, rfl⟩
        rw [← hn1] at HS HDD hr255
        have HN1 := Lib.hid hn1
        have tm : ¬ ((m : Int) = 0) := by omega
        clear HO2 HL' HSX HST HGT HHS HDL HDX F1 F2 F3 HCE HO1 hn1
        go_wp2_with fail
        refine HP.out.mono ?_
        rintro e w2 ⟨rfl, hh2⟩
        go_wp2_with fail
        refine (HS _ hh2).out.mono ?_
        rintro e w3 ⟨g2, c2, rfl, q1, q2, hh3⟩
        go_wp2_with fail
        obtain ⟨W5, hW5⟩ : ∃ W5, W5 = w3.alloc (.cells #[.int .i64 k0, .string s0] 43) := ⟨_, rfl⟩
        have ho5 : Oth [] w3 W5 := by rw [hW5]; exact (Oth.refl _ _).alloc _
        have r1 : W5.cell? ⟨w3.heap.size, 0, none⟩ = some (.int .i64 k0) := by rw [hW5]; exact World.cell?_alloc_at _ _ w3.heap.size 0 rfl
        have r2 : W5.cell? ⟨w3.heap.size, 1, none⟩ = some (.string s0) := by rw [hW5]; exact World.cell?_alloc_at _ _ w3.heap.size 1 rfl
        rw [← hW5]
        have HD5 := (HDD _ (hh3.out.still ((ho5.trans ((Oth.refl [] W5).drew) (Fr.nil _ _)))))
        clear hW5 HDD HS HP q1 q2
        go_region_held3 (fun w' => w'.cell? ⟨w3.heap.size, 0, none⟩ = some (.int .i64 k0) ∧ w'.cell? ⟨w3.heap.size, 1, none⟩ = some (.string s0)) (first | exact ⟨r1, r2⟩ | exact ⟨r3, r4⟩)
          (first | (go_at_call 31; refine HD5.out.mono ?_; rintro e w6 ⟨v', rfl, hfin⟩; have r3 := hfin.out.2.cell (p := ⟨w3.heap.size, 0, none⟩) r1 (by simp); have r4 := hfin.out.2.cell (p := ⟨w3.heap.size, 1, none⟩) r2 (by simp)))
        go_wp2_with fail
        go_ret2
        rw [hL]
        rw [HN1.out] at *
        exact hfin.out.1
    · go_wp2_with fail
      go_ret2
      exact F2.out _ HO1.out
end Go.Proofs.Ytbjfojdhdjehpaa
