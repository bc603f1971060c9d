/- The walk of alike. Condition: the arena and the reference are in one state. -/
import Derived.Test.YthllilkafdgheaaCia
import Derived.Test.YthllilkafdgheaaBia
import Derived.Test.YthllilkafdgheaaCja
namespace Go.Proofs.Ythllilkafdgheaa
open Go.RowKit Go.Shelf
set_option linter.unusedVariables false
set_option linter.unusedSimpArgs false
attribute [local go_sem] Oper.semAt_some

theorem owns_three {w : World} {B : Nat} {e : TypeId} {n : Nat} {v : Value} {R : List RB} (h : w.ownsRow B e 4 v n (rcs R)) :
    ∃ b cap, v = .slice b n cap ∧ ∀ i x, R[i]? = some x → ∃ g, b = some ⟨g, 0, none⟩ ∧ w.cell? ⟨g, i * 4, none⟩ = some (.int .i64 x.b.h) ∧ w.cell? ⟨g, i * 4 + 1, none⟩ = some (.int .i64 x.b.f) ∧ w.cell? ⟨g, i * 4 + 2, none⟩ = some (.int .i64 x.b.n) := by
  have hl := h.1
  rw [rcs_length] at hl
  rcases Nat.eq_zero_or_pos n with h0 | h0
  · have hnil : R = [] := List.eq_nil_of_length_eq_zero (by omega)
    rcases h.2 with ⟨rfl, _⟩ | ⟨g, cap, cur, rfl, _⟩
    · exact ⟨none, 0, by rw [h0], fun i x hx => by simp [hnil] at hx⟩
    · exact ⟨_, cap, rfl, fun i x hx => by simp [hnil] at hx⟩
  · obtain ⟨g, cap, rfl, _, hr⟩ := row_of_owns h h0
    exact ⟨_, cap, rfl, fun i x hx => ⟨g, rfl, hr.cell (rcs_get R i x hx).1, hr.cell (rcs_get R i x hx).2.1, hr.cell (rcs_get R i x hx).2.2.1⟩⟩

set_option maxHeartbeats 8000000 in
set_option maxRecDepth 100000 in
theorem alike_any (K : Nat → Obj → Prop) (w : World) (p : Nat) (s : St) (v : Value) (W : World) (h : Both K w p s v W) :
    Calls Try.prog 25 #[.pointer (some ⟨p, 0, none⟩), sval s v] W fun e w' => e = .returned (.bool true) ∧ Oth [] W w' := by
  obtain ⟨B, R, hR, hP, hB⟩ := h.rf
  obtain ⟨T, hT, hTL, hTp⟩ := srtOf h.fr.good hP
  obtain ⟨base, cap, hv⟩ := hR.slice
  obtain ⟨n, hn⟩ : ∃ n, n = R.length := ⟨_, rfl⟩
  rw [← hn] at hv
  subst hv
  have hnL : n = s.L.length := by rw [hn, ← blks_length]; exact hP.length_eq
  have hcnt := h.fr.good.cnt
  have hn1 : n ≤ 1000 := by omega
  have hbf : ∀ x, x ∈ R → x.b.f ≤ 16777216 ∧ x.b.n ≤ 16777216 := fun x hx => by
    have h1 := h.fr.good.blk x.b (hP.subset (List.mem_map_of_mem hx))
    have h2 := h.fr.good.high
    have h3 := h.fr.good.cap
    constructor <;> omega
  have hsum : sumN (blks R) = s.live := by
    rw [h.fr.good.live]; unfold sumN; exact (hP.map _).sum_nat
  obtain ⟨lv, hlv⟩ : ∃ a, a = s.live := ⟨_, rfl⟩
  obtain ⟨sc, hsc⟩ : ∃ a, a = s.cap := ⟨_, rfl⟩
  obtain ⟨sn, hsn⟩ : ∃ a, a = s.next := ⟨_, rfl⟩
  obtain ⟨sh, hsh⟩ : ∃ a, a = s.high := ⟨_, rfl⟩
  obtain ⟨sp, hsp⟩ : ∃ a, a = s.peak := ⟨_, rfl⟩
  obtain ⟨sm, hsm⟩ : ∃ a, a = s.moves := ⟨_, rfl⟩
  have HF := Lib.hid h.fr
  have HFA : Hid (∀ V, Oth [] W V → (Calls Try.prog 13 #[.pointer (some ⟨p, 0, none⟩)] V fun e w' => e = .returned (.int .i64 lv) ∧ V = w') ∧ (Calls Try.prog 19 #[.pointer (some ⟨p, 0, none⟩)] V fun e w' => e = .returned (.int .i64 sm) ∧ V = w') ∧ (Calls Try.prog 20 #[.pointer (some ⟨p, 0, none⟩)] V fun e w' => e = .returned (.int .i64 sc) ∧ V = w') ∧ (Calls Try.prog 21 #[.pointer (some ⟨p, 0, none⟩)] V fun e w' => e = .returned (.int .i64 sh) ∧ V = w') ∧ (Calls Try.prog 23 #[.pointer (some ⟨p, 0, none⟩)] V fun e w' => e = .returned (.int .i64 sp) ∧ V = w')) := fun V hV => by
    have hf := HF.out.quiet hV
    rw [hlv, hsm, hsc, hsh, hsp]
    exact ⟨hf.live, hf.moves, hf.cap, hf.high, hf.peak⟩
  have HLR : Hid (∀ V, Oth [] W V → Calls Try.prog 38 #[.agg #[.int .i64 sc, .int .i64 sn, .int .i64 sh, .int .i64 sp, .int .i64 sm, .slice base n cap]] V fun e w' => e = .returned (.int .i64 lv) ∧ Oth [] V w') := fun V hV => by
    have := Live_ref B s base n cap R V (hR.quiet hV) hn hn1 (fun x hx => (hbf x hx).2)
    rw [hlv, ← hsum, hsc, hsn, hsh, hsp, hsm]; exact this
  have HSO : Hid (∀ V, Oth [] W V → Calls Try.prog 39 #[.slice base n cap] V fun e w' => ∃ v, e = .returned v ∧ w'.ownsRow V.heap.size 77 4 v n (rcs T) ∧ Oth [] V w') := fun V hV => Sorted_ref B base n cap R T V (hR.quiet hV) hn1 hT (fun x hx => (hbf x hx).1)
  have HTL := Lib.hid hTL
  have HNL := Lib.hid hnL
  unfold sval
  rw [← hsc, ← hsn, ← hsh, ← hsp, ← hsm]
  have HSUM := Lib.hid hsum
  clear h hR hP hB hT hTL hTp hn hnL hbf hsum hlv hsc hsn hsh hsp hsm
  refine (callsIn_wide (n := 5)).1 ?_
  refine callsIn_of_wp_marks Try.func25 rfl trivial ?_ rfl
  simp only [Try.ntmps25, List.size_toArray, List.length_cons, List.length_nil, Nat.reduceAdd, Nat.reduceSub, Array.replicate_succ, Array.replicate_zero, List.push_toArray, List.append_toArray, List.nil_append, List.cons_append]
  refine wpIn_wide.2 ?_
  go_wp2_with fail
  obtain ⟨W0, hW0⟩ : ∃ W0, W0 = (W.alloc (.cells #[.int .i64 sc, .int .i64 sn, .int .i64 sh, .int .i64 sp, .int .i64 sm, .slice base n cap] 55)).alloc (.cells #[.bool false] 4) := ⟨_, rfl⟩
  obtain ⟨o1, k1, k2, k3⟩ := twoG hW0
  rw [← hW0]
  obtain ⟨sb, hsb⟩ : ∃ sb, sb = W.heap.size := ⟨_, rfl⟩
  rw [← hsb] at k1 k2 k3 ⊢
  have HK1 : Hid (SC sb sc sn sh sp sm (.slice base n cap) W0) := k1
  have HK2 := Lib.hid k2
  have HO1 := Lib.hid o1
  have HSB : Hid (sb = W.heap.size) := hsb
  have HLC : Hid (∀ V, Oth [] W0 V → Calls Try.prog 38 #[.agg #[.int .i64 sc, .int .i64 sn, .int .i64 sh, .int .i64 sp, .int .i64 sm, .slice base n cap]] V fun e w' => e = .returned (.int .i64 lv) ∧ w'.cell? ⟨sb, 0, none⟩ = some (.int .i64 sc) ∧ w'.cell? ⟨sb, 1, none⟩ = some (.int .i64 sn) ∧ w'.cell? ⟨sb, 2, none⟩ = some (.int .i64 sh) ∧ w'.cell? ⟨sb, 3, none⟩ = some (.int .i64 sp) ∧ w'.cell? ⟨sb, 4, none⟩ = some (.int .i64 sm) ∧ w'.cell? ⟨sb, 5, none⟩ = some (.slice base n cap) ∧ Hid (Oth [] W0 w')) := by
    intro V hV
    refine (HLR.out V (o1.trans hV (Fr.nil _ _))).mono ?_
    rintro e w' ⟨rfl, ho⟩
    have hz := hV.trans ho (Fr.nil _ _)
    have hs : SC sb sc sn sh sp sm (.slice base n cap) w' := hz.heap k1 (by simp)
    obtain ⟨c0, c1, c2, c3, c4, c5⟩ := hs.c
    exact ⟨rfl, c0, c1, c2, c3, c4, c5, hz⟩
  obtain ⟨s0, s1, s2, s3, s4, s5⟩ := HK1.out.c
  have HL13 : Hid (∀ V, Oth [] W0 V → Calls Try.prog 13 #[.pointer (some ⟨p, 0, none⟩)] V fun e w' => e = .returned (.int .i64 lv) ∧ V = w') := fun V hV => (HFA.out V (o1.trans hV (Fr.nil _ _))).1
  have HL19 : Hid (∀ V, Oth [] W0 V → Calls Try.prog 19 #[.pointer (some ⟨p, 0, none⟩)] V fun e w' => e = .returned (.int .i64 sm) ∧ V = w') := fun V hV => (HFA.out V (o1.trans hV (Fr.nil _ _))).2.1
  have HL20 : Hid (∀ V, Oth [] W0 V → Calls Try.prog 20 #[.pointer (some ⟨p, 0, none⟩)] V fun e w' => e = .returned (.int .i64 sc) ∧ V = w') := fun V hV => (HFA.out V (o1.trans hV (Fr.nil _ _))).2.2.1
  have HL21 : Hid (∀ V, Oth [] W0 V → Calls Try.prog 21 #[.pointer (some ⟨p, 0, none⟩)] V fun e w' => e = .returned (.int .i64 sh) ∧ V = w') := fun V hV => (HFA.out V (o1.trans hV (Fr.nil _ _))).2.2.2.1
  have HL23 : Hid (∀ V, Oth [] W0 V → Calls Try.prog 23 #[.pointer (some ⟨p, 0, none⟩)] V fun e w' => e = .returned (.int .i64 sp) ∧ V = w') := fun V hV => (HFA.out V (o1.trans hV (Fr.nil _ _))).2.2.2.2
  have g0 : ((lv : Int) != (lv : Int)) = false := by simp
  have g1 : ((sh : Int) != (sh : Int)) = false := by simp
  have g2 : ((sp : Int) != (sp : Int)) = false := by simp
  have g3 : ((sm : Int) != (sm : Int)) = false := by simp
  have g4 : ((sc : Int) != (sc : Int)) = false := by simp
  have HSZ0 : Hid (W0.heap.size = sb + 2) := k3
  clear hW0 k1 k2 k3 hsb HFA HLR o1
  go_region_held3 (fun w' => w'.cell? ⟨sb, 0, none⟩ = some (.int .i64 sc) ∧ w'.cell? ⟨sb, 1, none⟩ = some (.int .i64 sn) ∧ w'.cell? ⟨sb, 2, none⟩ = some (.int .i64 sh) ∧ w'.cell? ⟨sb, 3, none⟩ = some (.int .i64 sp) ∧ w'.cell? ⟨sb, 4, none⟩ = some (.int .i64 sm) ∧ w'.cell? ⟨sb, 5, none⟩ = some (.slice base n cap)) (first | exact ⟨s0, s1, s2, s3, s4, s5⟩ | exact ⟨u0, u1, u2, u3, u4, u5⟩)
    (first
      | (go_at_call 38; refine (HLC.out _ ?_).mono ?_; (first | exact Oth.refl _ _ | exact (Oth.refl _ _).drew | exact (Oth.refl _ _).drewN _); rintro e w3 ⟨rfl, u0, u1, u2, u3, u4, u5, HF3⟩)
      | (go_at_call 13; refine (HL13.out _ ?_).mono ?_; (first | exact Oth.refl _ _ | exact (Oth.refl _ _).drew | exact (Oth.refl _ _).drewN _); rintro e w4 ⟨rfl, rfl⟩)
      | (go_at_call 19; refine (HL19.out _ ?_).mono ?_; (first | exact HF3.out | exact HF3.out.drew | exact HF3.out.drewN _); rintro e w4 ⟨rfl, rfl⟩)
      | (go_at_call 20; refine (HL20.out _ ?_).mono ?_; (first | exact HF3.out | exact HF3.out.drew | exact HF3.out.drewN _); rintro e w4 ⟨rfl, rfl⟩)
      | (go_at_call 21; refine (HL21.out _ ?_).mono ?_; (first | exact HF3.out | exact HF3.out.drew | exact HF3.out.drewN _); rintro e w4 ⟨rfl, rfl⟩)
      | (go_at_call 23; refine (HL23.out _ ?_).mono ?_; (first | exact HF3.out | exact HF3.out.drew | exact HF3.out.drewN _); rintro e w4 ⟨rfl, rfl⟩))
  have HFW : Hid (∀ V, Oth [] w3 V → Fresh w p s V) := fun V hV => HF.out.quiet (HO1.out.trans (HF3.out.trans hV (Fr.nil _ _)) (Fr.nil _ _))
  have HSO3 : Hid (∀ V, Oth [] w3 V → Calls Try.prog 39 #[.slice base n cap] V fun e w' => ∃ v, e = .returned v ∧ w'.ownsRow V.heap.size 77 4 v n (rcs T) ∧ Oth [] V w') := fun V hV => HSO.out V (HO1.out.trans (HF3.out.trans hV (Fr.nil _ _)) (Fr.nil _ _))
  clear HL13 HL19 HL20 HL21 HL23 HLC HSO s0 s1 s2 s3 s4 s5
  have l0 : sb + 2 ≤ w3.heap.size := by have := HF3.out.size; have := HSZ0.out; omega
  have l1 : sb < w3.heap.size := by omega
  have hok : Oth [] w3 (w3.alloc (.cells #[.int .i64 0] 3)) := (Oth.refl _ _).alloc _
  go_wp2_with fail
  refine (HSO3.out _ hok).mono ?_
  rintro e w4 ⟨v4, rfl, hown4, ho4⟩
  obtain ⟨bo, co, rfl, hoc⟩ := owns_three hown4
  have ho34 := hok.trans ho4 (Fr.nil _ _)
  have hk4 : w4.heap[w3.heap.size]? = some (.cells #[.int .i64 0] 3 (0, 0)) := ho4.heap (heap_alloc_new _ _) (by simp)
  obtain ⟨kb, hkb⟩ : ∃ kb, kb = w3.heap.size := ⟨_, rfl⟩
  rw [← hkb] at hk4 l0 ⊢
  have hlk : kb < w4.heap.size := lt_of_block hk4
  have hob : ∀ g, bo = some ⟨g, 0, none⟩ → 0 < n → kb < g := fun g hg h0 => by
    have := (hown4.lt g (by rw [hg]; rfl)).1
    simp at this
    omega
  have HOB := Lib.hid hob
  have HOC := Lib.hid hoc
  have HK4 := Lib.hid hk4
  have HO34 := Lib.hid ho34
  have HKB := Lib.hid hkb
  clear hown4 hoc hk4 ho4 ho34 hok hkb HSO3 u0 u1 u2 u3 u4 u5 l1 hob
  go_wp2_with fail
  refine (All_any p _).mono ?_
  rintro e w5 ⟨rfl, t5, rfl⟩
  go_wp2_with fail
  obtain ⟨W4, hW4⟩ : ∃ W4, W4 = (w4.alloc (.cells #[.slice bo n co] 53)).alloc (.cells #[.pointer (some ⟨p, 0, none⟩)] t5) := ⟨_, rfl⟩
  obtain ⟨o4, m1, m2, m3⟩ := twoG hW4
  obtain ⟨lb, hlb⟩ : ∃ lb, lb = w4.heap.size := ⟨_, rfl⟩
  rw [← hlb] at m1 m2 m3 hlk
  rw [← hW4, ← hlb]
  have ho44 := HO34.out.trans o4 (Fr.nil _ _)
  have hf4 := HFW.out W4 ho44
  obtain ⟨S4, ha4, _⟩ := hf4.ar
  have hpc : W4.cell? ⟨lb + 1, 0, none⟩ = some (.pointer (some ⟨p, 0, none⟩)) := by simp [World.cell?, m2]
  have HSTOP := Lib.hid (all_stops 4 (by omega) (lb + 1) p [kb] S4 s hf4.good.cnt W4 (by simp; omega) hpc ha4)
  have hkh := o4.heap HK4.out (by simp)
  have hrh : W4.heap[sb + 1]? = some (.cells #[.bool false] 4 (0, 0)) := (HF3.out.trans ho44 (Fr.nil _ _)).heap HK2.out (by simp)
  have HLB := Lib.hid m1
  have HKH := Lib.hid hkh
  have HRH := Lib.hid hrh
  have HSZ4 : Hid (W4.heap.size = lb + 2) := m3
  have HG4 := Lib.hid hf4.good
  have HOW : Hid (Oth [] W W4) := HO1.out.trans (HF3.out.trans ho44 (Fr.nil _ _)) (Fr.nil _ _)
  have HTC : Hid (∀ i y, T[i]? = some y → ∃ g, bo = some ⟨g, 0, none⟩ ∧ g ≠ kb ∧ W4.cell? ⟨g, i * 4, none⟩ = some (.int .i64 y.b.h) ∧ W4.cell? ⟨g, i * 4 + 1, none⟩ = some (.int .i64 y.b.f) ∧ W4.cell? ⟨g, i * 4 + 2, none⟩ = some (.int .i64 y.b.n)) := fun i y hy => by
    obtain ⟨g, hg, e0, e1, e2⟩ := HOC.out i y hy
    have hn0 : 0 < n := by
      have h1 := (List.getElem?_eq_some_iff.1 hy).1
      have h2 := HNL.out
      rw [← HTL.out, blks_length] at h2
      omega
    have := HOB.out g hg hn0
    exact ⟨g, hg, by omega, o4.cell e0 (by simp), o4.cell e1 (by simp), o4.cell e2 (by simp)⟩
  have n1 : sb + 1 ≠ kb := by omega
  have n2 : lb ≠ kb := by omega
  have n3 : kb < W4.heap.size := by omega
  have hww : W.heap.size ≤ kb := by have := HSB.out; omega
  clear hW4 o4 m1 m2 m3 hlb ho44 hf4 ha4 hpc hkh hrh HF3 HK4 HO34 HFW HOC HOB HK1 HK2 HSUM
  refine (wpIn_wide (n := 5)).1 ?_
  refine wpIn_rangeFunc_box (α := BlkOf s) rfl (by omega) (gf := 33) (lb := #[.pointer (some ⟨lb + 1, 0, none⟩)]) rfl trivial (enters_of Try.func33 (by kernel_rfl) rfl)
    HSTOP.out (fun h k => h.trans k) (fun W l o o' _ h hc _ => CK.book W l o o' h hc) (Below.refl _ _) (fun _ => rfl)
    (fun pre W => (vals pre <+: s.L ∧ W.heap[kb]? = some (.cells #[.int .i64 (pre.length : Int)] 3 (0, 0))) ∧ Oth [kb] W4 W)
    (fun _ pre _ => ¬ vals pre <+: s.L)
    (OwnFrom.and (fun s A B row hs hg hr => ⟨hs.1, heap_ownFrom (f := fun s : List (BlkOf _) => .cells #[.int .i64 (s.length : Int)] 3 (0, 0)) (fun _ => rfl) s A B row hs.2 hg hr⟩) (oth_ownFrom (Nat.le_refl _)))
    (fun _ _ _ _ _ hs _ _ => hs)
    ⟨⟨List.nil_prefix, HKH.out⟩, Oth.refl _ _⟩
    (fun x b W => b ≠ kb ∧ W.heap[b]? = some (.cells #[.int .i64 x.1.h, .int .i64 x.1.f, .int .i64 x.1.n] 45 (0, 0)))
    (fun x b u A B row hs hg hr => ⟨hs.1, heap_ownFrom (f := fun _ : Unit => .cells #[.int .i64 x.1.h, .int .i64 x.1.f, .int .i64 x.1.n] 45 (0, 0)) (fun _ => rfl) u A B row hs.2 hg hr⟩)
    ?_ ?assign ?body ?done ?stop
  case assign =>
    intro l' pre x W K hi hK
    gi_wp2
    have hlt1 := lt_of_block hi.1.2
    have hoA : Oth [] W (W.alloc (.cells #[.int .i64 x.1.h, .int .i64 x.1.f, .int .i64 x.1.n] 45)) := (Oth.refl _ _).alloc _
    have hnew := heap_alloc_new W (.cells #[.int .i64 x.1.h, .int .i64 x.1.f, .int .i64 x.1.n] 45)
    obtain ⟨bb, hbb⟩ : ∃ bb, bb = W.heap.size := ⟨_, rfl⟩
    rw [← hbb] at hnew ⊢
    exact hK bb _ ((KeepsOthers.alloc _ _).from _) (hoA.mono (S' := [kb]) (by simp)).ck ⟨⟨hi.1.1, hoA.heap hi.1.2 (by simp)⟩, hi.2.alloc _⟩ ⟨by omega, hnew⟩
  case body =>
    rintro l' pre x bb W ⟨⟨hpre, hkt⟩, hoW⟩ ⟨hb1, hbh⟩ hlen
    have hTn : T.length = s.L.length := by rw [← HTL.out, blks_length]
    obtain ⟨y, hy⟩ : ∃ y, T[pre.length]? = some y := ⟨_, List.getElem?_eq_getElem (by omega)⟩
    obtain ⟨g, rfl, hgk, e0, e1, e2⟩ := HTC.out _ y hy
    have hyL : s.L[pre.length]? = some y.b := by rw [← HTL.out]; exact blks_get hy
    have hnx : x.1 = y.b → vals (pre ++ [x]) <+: s.L := fun e => by
      rw [List.prefix_iff_eq_take] at hpre ⊢
      rw [vals_append, List.length_append, vals_length] at *
      show vals pre ++ [x.1] = _
      rw [show (vals [x]).length = 1 from rfl, List.take_add_one, hyL, ← hpre, e]; rfl
    have hno : x.1.h ≠ y.b.h → ¬ vals (pre ++ [x]) <+: s.L := fun e h => by
      rw [vals_append] at h
      have h1 := h.getElem (i := pre.length) (by simp [vals])
      have h5 := (List.getElem?_eq_some_iff.1 hyL).2
      rw [List.getElem_append_right (by simp [vals])] at h1
      rw [← h1] at h5
      simp [vals] at h5
      exact e (by rw [h5])
    have d0 := hoW.cell e0 (by simpa using hgk)
    have d1 := hoW.cell e1 (by simpa using hgk)
    have d2 := hoW.cell e2 (by simpa using hgk)
    have hl5 := hoW.heap HLB.out (by simpa using n2)
    have hr5 := hoW.heap HRH.out (by simpa using n1)
    have c1 : W.cell? ⟨lb, 0, none⟩ = some (.slice (some ⟨g, 0, none⟩) n co) := by simp [World.cell?, hl5]
    have c2 : W.cell? ⟨kb, 0, none⟩ = some (.int .i64 (pre.length : Int)) := by simp [World.cell?, hkt]
    have c3 : W.frozen? ⟨kb, 0, none⟩ = false := by simp [World.frozen?, hkt]
    have c4 : W.frozen? ⟨sb + 1, 0, none⟩ = false := by simp [World.frozen?, hr5]
    have c5 : W.cell? ⟨sb + 1, 0, none⟩ = some (.bool false) := by simp [World.cell?, hr5]
    have b0 : W.cell? ⟨bb, 0, none⟩ = some (.int .i64 x.1.h) := by simp [World.cell?, hbh]
    have b1 : W.cell? ⟨bb, 1, none⟩ = some (.int .i64 x.1.f) := by simp [World.cell?, hbh]
    have b2 : W.cell? ⟨bb, 2, none⟩ = some (.int .i64 x.1.n) := by simp [World.cell?, hbh]
    obtain ⟨j, hj⟩ : ∃ j, j = pre.length := ⟨_, rfl⟩
    have hjn : j < n := by have := HNL.out; omega
    have HJ := Lib.hid hj
    rw [← hj] at d0 d1 d2 c2
    have t1 : (j : Int) < (n : Int) := by omega
    have t2 : ¬ (n : Int) ≤ (j : Int) := by omega
    have t3 : ¬ (j : Int) < 0 := by omega
    have t4 : decide ((n : Int) ≤ (j : Int)) = false := decide_eq_false t2
    have t5 : ¬ n ≤ j := by omega
    have HOW2 := Lib.hid hoW
    have HKT := Lib.hid hkt
    have HNX := Lib.hid hnx
    have HNO := Lib.hid hno
    have hxL := x.2
    have hyM := List.mem_of_getElem? hyL
    obtain ⟨xb, hxb⟩ : ∃ a, a = x.1 := ⟨_, rfl⟩
    obtain ⟨yb, hyb⟩ : ∃ a, a = y.b := ⟨_, rfl⟩
    rw [← hxb] at hxL b0 b1 b2 HNX HNO
    rw [← hyb] at hyM d0 d1 d2 HNX HNO
    have hone := HG4.out.one hxL hyM
    clear hpre hkt hoW hbh hlen hTn hy e0 e1 e2 hyL hnx hno hl5 hr5 hj hxL hyM hxb hyb
    by_cases hh : xb.h = yb.h
    · have hh2 := hone hh
      subst hh2
      clear hone hh
      obtain ⟨xh, hxh⟩ : ∃ a, a = xb.h := ⟨_, rfl⟩
      obtain ⟨xf, hxf⟩ : ∃ a, a = xb.f := ⟨_, rfl⟩
      obtain ⟨xn, hxn⟩ : ∃ a, a = xb.n := ⟨_, rfl⟩
      rw [← hxh] at b0 d0
      rw [← hxf] at b1 d1
      rw [← hxn] at b2 d2
      clear hxh hxf hxn
      have hmix : Try.prog.follows .mixedOrders = true := by kernel_rfl
      gi_wp2_with fail
      refine wpIn_region_quiet_round (by kernel_rfl) (by kernel_rfl) (by kernel_rfl) ?_
      repeat (go_big_quiet_step (fail))
      refine wpQuiet_nil ?_
      intro _ hw'
      obtain ⟨nq, hw''⟩ := hw'
      subst hw''
      gi_wp2
      have hKD : KeepsOthers W (W.drewN nq) := ⟨Nat.le_refl _, fun _ _ h _ => h⟩
      have hD2 : (W.drewN nq).heap[kb]? = some (.cells #[.int .i64 (j : Int)] 3 (0, 0)) := by rw [HJ.out]; exact HKT.out
      refine ⟨(hKD.trans (KeepsOthers.setCell _ _ _)).from _, (((Oth.refl [kb] W).drewN nq).setCell (p := ⟨kb, 0, none⟩) (.inl (by simp)) _).ck, ⟨by first | exact HNX.out rfl | exact HNX.out trivial, ?_⟩, (HOW2.out.drewN nq).setCell (p := ⟨kb, 0, none⟩) (.inl (by simp)) _⟩
      rw [one_set0 hD2, List.length_append, HJ.out]; rfl
    · have hhI : ¬ (xb.h : Int) = (yb.h : Int) := by omega
      obtain ⟨xh, hxh⟩ : ∃ a, a = xb.h := ⟨_, rfl⟩
      obtain ⟨xf, hxf⟩ : ∃ a, a = xb.f := ⟨_, rfl⟩
      obtain ⟨xn, hxn⟩ : ∃ a, a = xb.n := ⟨_, rfl⟩
      obtain ⟨yh, hyh⟩ : ∃ a, a = yb.h := ⟨_, rfl⟩
      obtain ⟨yf, hyf⟩ : ∃ a, a = yb.f := ⟨_, rfl⟩
      obtain ⟨yn, hyn⟩ : ∃ a, a = yb.n := ⟨_, rfl⟩
      have HHH : Hid (xb.h ≠ yb.h) := hh
      rw [← hxh, ← hyh] at hh hhI
      rw [← hxh] at b0
      rw [← hxf] at b1
      rw [← hxn] at b2
      rw [← hyh] at d0
      rw [← hyf] at d1
      rw [← hyn] at d2
      clear hxh hxf hxn hyh hyf hyn hone
      gi_wp2_with fail
      refine wpIn_region_quiet_round (by kernel_rfl) (by kernel_rfl) (by kernel_rfl) ?_
      repeat (go_big_quiet_step (fail))
      refine wpQuiet_nil ?_
      intro _ hw'
      obtain ⟨nq, hw''⟩ := hw'
      subst hw''
      gi_wp2
      have hKD : KeepsOthers W (W.drewN nq) := ⟨Nat.le_refl _, fun _ _ h _ => h⟩
      exact ⟨(hKD.trans (KeepsOthers.setCell _ _ _)).from _, HNO.out HHH.out⟩
  case done =>
    rintro D xs V hD hvs ⟨⟨_, hkt⟩, hoV⟩ hDef
    have hvl : xs.length = s.L.length := by rw [← hvs, vals_length]
    rw [hvl, ← HNL.out] at hkt
    have hl5 := hoV.heap HLB.out (by simpa using n2)
    have hr5 := hoV.heap HRH.out (by simpa using n1)
    have c1 : V.cell? ⟨lb, 0, none⟩ = some (.slice bo n co) := by simp [World.cell?, hl5]
    have c2 : V.cell? ⟨kb, 0, none⟩ = some (.int .i64 (n : Int)) := by simp [World.cell?, hkt]
    have c4 : V.frozen? ⟨sb + 1, 0, none⟩ = false := by simp [World.frozen?, hr5]
    have c5 : V.cell? ⟨sb + 1, 0, none⟩ = some (.bool false) := by simp [World.cell?, hr5]
    have hDef2 : (V.setCell ⟨sb + 1, 0, none⟩ (.bool true)).heap[D]? = some (.deferred (some [])) := (KeepsOthers.setCell V ⟨sb + 1, 0, none⟩ (.bool true)).same D _ hDef rfl
    have hfin : (V.setCell ⟨sb + 1, 0, none⟩ (.bool true)).heap[sb + 1]? = some (.cells #[.bool true] 4 (0, 0)) := one_set0 hr5
    have hoF : Oth [] W ((V.setCell ⟨sb + 1, 0, none⟩ (.bool true)).putObj D (.deferred none)) := by
      have h1 : Oth [] W V := HOW.out.trans hoV (fun k hk => by simp at hk; subst hk; exact .inr hww)
      exact (h1.setCell (p := ⟨sb + 1, 0, none⟩) (.inr (by rw [HSB.out]; simp)) _).putObj (.inr (by omega)) _
    have hcF : ((V.setCell ⟨sb + 1, 0, none⟩ (.bool true)).putObj D (.deferred none)).cell? ⟨sb + 1, 0, none⟩ = some (.bool true) := by
      have : ((V.setCell ⟨sb + 1, 0, none⟩ (.bool true)).putObj D (.deferred none)).heap[sb + 1]? = some (.cells #[.bool true] 4 (0, 0)) := (World.putObj_heap_other (by have := HSZ4.out; omega)).trans hfin
      simp [World.cell?, this]
    clear hl5 hr5 hkt hoV hDef hfin hvs hvl
    gi_wp2
    go_wp2
    refine ⟨by simp, .inl ⟨_, _, rfl, run_takeDeferred hDef2, ?_⟩⟩
    refine ⟨.bool true, ?_, rfl, hoF⟩
    simp [results, Try.f25, go_sem, hcF]
  case stop =>
    rintro D c pre W _ h1 h2 _
    exact absurd h1 h2
end Go.Proofs.Ythllilkafdgheaa
