/- The walk of the law ArenaBounds. Condition: the arguments read as lists. -/
import Derived.Test.YthllilkafdgheaaBia
namespace Go.Proofs.Ythllilkafdgheaa
open Go.RowKit Go.Shelf
set_option linter.unusedVariables false
set_option linter.unusedSimpArgs false
attribute [local go_sem] Oper.semAt_some

set_option maxHeartbeats 8000000 in
set_option maxRecDepth 100000 in
theorem arenaBounds_any (cap : Int) (base : Option Addr) (n c : Nat) (l : List OpV) (w : World) (hR : ReadsO base n l w) :
    Calls Try.prog 6 #[.int .i64 cap, .slice base n c] w fun e w' => e = .returned (.bool true) ∧ Oth [] w w' := by
  have HR := Lib.hid hR
  clear hR
  refine (callsIn_wide (n := 5)).1 ?_
  refine callsIn_of_wp_marks Try.func6 rfl trivial ?_ rfl
  simp only [Try.ntmps6, List.size_toArray, List.length_cons, List.length_nil, Nat.reduceAdd, Nat.reduceSub, Array.replicate_succ, Array.replicate_zero, List.push_toArray, List.append_toArray, List.nil_append, List.cons_append]
  refine wpIn_wide.2 ?_
  go_wp2_with fail
  obtain ⟨W0, hW0⟩ : ∃ W0, W0 = (w.alloc (.cells #[.int .i64 cap] 3)).alloc (.cells #[.bool false] 4) := ⟨_, rfl⟩
  have h0s : W0.heap[w.heap.size]? = some (.cells #[.int .i64 cap] 3 (0, 0)) := by rw [hW0, Below.heap_alloc _ _ _ (by simp)]; exact heap_alloc_new _ _
  have h0r : W0.heap[w.heap.size + 1]? = some (.cells #[.bool false] 4 (0, 0)) := by
    have := heap_alloc_new (w.alloc (.cells #[.int .i64 cap] 3)) (.cells #[.bool false] 4)
    rw [World.size_alloc] at this; rw [hW0]; exact this
  have ho0 : Oth [] w W0 := by rw [hW0]; exact ((Oth.refl _ _).alloc _).alloc _
  have hsz0 : W0.heap.size = w.heap.size + 2 := by rw [hW0]; simp
  rw [← hW0]
  obtain ⟨cb, hcb⟩ : ∃ sb, sb = w.heap.size := ⟨_, rfl⟩
  obtain ⟨rb, hrb⟩ : ∃ rb, rb = cb + 1 := ⟨_, rfl⟩
  rw [← hcb] at h0s h0r hsz0
  rw [← hrb] at h0r
  rw [← hcb, ← hrb]
  have HSB : Hid (cb = w.heap.size ∧ rb = cb + 1 ∧ W0.heap.size = cb + 2) := ⟨hcb, hrb, hsz0⟩
  have H0S := Lib.hid h0s
  have H0R := Lib.hid h0r
  -- how the law returns early
  have EARLY : ∀ w5, Oth [] W0 w5 → Hid (w5.frozen? ⟨rb, 0, none⟩ = false ∧ w5.cell? ⟨rb, 0, none⟩ = some (.bool false) ∧ (w5.setCell ⟨rb, 0, none⟩ (.bool true)).cell? ⟨rb, 0, none⟩ = some (.bool true) ∧ Oth [] w (w5.setCell ⟨rb, 0, none⟩ (.bool true))) := fun w5 ho => by
    have h1 := ho.heap H0R.out (by simp)
    have h2 := one_set0 (u := .bool true) h1
    refine ⟨by simp [World.frozen?, h1], by simp [World.cell?, h1], by simp [World.cell?, h2], (ho0.trans ho (Fr.nil _ _)).setCell (.inr ?_) _⟩
    show w.heap.size ≤ rb
    omega
  clear hW0 hcb hrb hsz0 h0s h0r
  refine (small_any cap base n c l W0 (HR.out.oth ho0)).mono ?_
  rintro e w1 ⟨⟨b, rfl, hb⟩, ho1⟩
  cases b with
  | false =>
    clear hb
    go_wp2_with fail
    refine (awake_any _).mono ?_
    rintro e w4 ⟨rfl, ho4⟩
    obtain ⟨f1, f2, f3, f4⟩ := (EARLY _ (ho1.trans ho4 (Fr.nil _ _))).out
    go_wp2
    refine ⟨.bool true, ?_, rfl, f4⟩
    simp [results, Try.f6, go_sem, f3]
  | true =>
    obtain ⟨hc0, hc3, hl1, hom⟩ := hb rfl
    obtain ⟨cp, rfl⟩ : ∃ q : Nat, cap = q := ⟨cap.toNat, by omega⟩
    have hn100 : n ≤ 100 := by have := HR.out.1; omega
    have cc1 : w1.cell? ⟨cb, 0, none⟩ = some (.int .i64 cp) := by have := ho1.heap H0S.out (by simp); simp [World.cell?, this]
    clear hb hom hl1
    go_wp2_with fail
    refine (Fresh.new w1 cp (by omega)).mono ?_
    rintro e w2 ⟨p, rfl, hf⟩
    have H2 := Lib.hid hf
    clear hf cc1
    go_wp2_with fail
    refine wp_loop (BL cb rb p base n c w1 cp) (fun a' _ => (n - intOf (a'.tmps.getD 33 undef)).toNat) ?_ ?_
    · exact ⟨0, [], by omega, ⟨rfl, rfl, rfl, rfl, rfl, rfl, rfl, rfl⟩, _, H2.out, Nat.le_refl _, rfl, List.nodup_nil, fun D hD => by cases hD⟩
    · intro a0 wr hinv
      obtain ⟨⟨i, Ds, hin, hac, hbi⟩⟩ := hinv
      obtain ⟨t0, d0⟩ := a0
      obtain ⟨h33, h2, h4, h5, h31, h32, hsz, rfl⟩ := hac
      revert h33 h2 h4 h5 h31 h32
      revert t0
      refine allA ?_
      intro u0 u1 u2 u3 u4 u5 u6 u7 u8 u9 u10 u11 u12 u13 u14 u15 u16 u17 u18 u19 u20 u21 u22 u23 u24 u25 u26 u27 u28 u29 u30 u31 u32 u33 u34 u35 u36 u37 u38 u39 u40 u41 u42 u43 u44 u45 u46 u47 u48 u49 u50 u51 u52 u53 u54 u55 u56 u57 u58 u59 u60 u61 u62 u63 u64 u65 u66 u67 u68 u69 u70 u71 u72 u73 u74 u75 u76 u77 u78 u79 u80 u81 u82 u83 u84 u85 u86 u87 u88 u89 u90 u91 u92 u93 u94 u95 u96 u97 u98 u99 u100 u101 u102 u103 u104 u105 u106 u107 u108 u109 u110 u111 u112 u113 u114 u115 u116 u117 u118 u119 u120 u121 u122 u123 u124 u125 u126 u127 u128 u129 h33 h2 h4 h5 h31 h32
      simp only [List.getElem?_toArray, List.getElem?_cons_zero, List.getElem?_cons_succ, Option.some.injEq] at h33 h2 h4 h5 h31 h32
      subst h33 h2 h4 h5 h31 h32
      try dsimp only
      by_cases hlt : i < n
      · have u1' : (i : Int) < (n : Int) := by omega
        obtain ⟨s, hf, hnx, hsc, hnd, hDs⟩ := hbi.out
        obtain ⟨o, hav⟩ : ∃ p, l[i]? = some p := ⟨_, List.getElem?_eq_getElem (by have := HR.out.1; omega)⟩
        obtain ⟨⟨g, off, rfl, c1, c2, c3⟩, hwf, hrd⟩ := (((HR.out.oth ho0).oth ho1).oth hf.oth).2.2 i _ hav
        have hgl : g < wr.heap.size := World.block_lt_of_cell? wr _ c1
        have cc : wr.cell? ⟨cb, 0, none⟩ = some (.int .i64 cp) := by have := hf.oth.heap (ho1.heap H0S.out (by simp)) (by simp); simp [World.cell?, this]
        obtain ⟨q1, q2, q3⟩ := hf.beside (opc o)
        unfold opc at q1 q2 q3
        obtain ⟨ok, hok⟩ : ∃ a, a = o.k := ⟨_, rfl⟩
        obtain ⟨on, hon⟩ : ∃ a, a = o.n := ⟨_, rfl⟩
        obtain ⟨ob, hob⟩ : ∃ a, a = o.b := ⟨_, rfl⟩
        obtain ⟨om, hom⟩ : ∃ a, a = o.m := ⟨_, rfl⟩
        obtain ⟨oc, hoc⟩ : ∃ a, a = o.c := ⟨_, rfl⟩
        rw [← hon] at hwf
        rw [← hok, ← hon, ← hob, ← hom, ← hoc] at q1 q2 q3
        rw [← hok] at c1
        rw [← hon] at c2
        rw [← hob, ← hom, ← hoc] at c3
        have hoa : Oth [] wr (wr.alloc (.cells #[.int .i64 ok, .int .i64 on, .slice ob om oc] 31)) := (Oth.refl _ _).alloc _
        have Q1 := Lib.hid q1
        have Q2 := Lib.hid q2
        have Q3 := Lib.hid q3
        have HDA : Hid (∀ D, D ∈ Ds → w1.heap.size ≤ D ∧ Bes p s (wr.alloc (.cells #[.int .i64 ok, .int .i64 on, .slice ob om oc] 31)) D ∧ (wr.alloc (.cells #[.int .i64 ok, .int .i64 on, .slice ob om oc] 31)).heap[D]? = some (.deferred (some []))) := fun D h => by
          obtain ⟨h1, h2, h3⟩ := hDs D h
          exact ⟨h1, h2.oth hf hoa, hoa.heap h3 (by simp)⟩
        have HNX := Lib.hid hnx
        have HSC := Lib.hid hsc
        have HND := Lib.hid hnd
        have HWF := Lib.hid hwf
        have hlv := hf.good.peak
        have hscp := hsc
        obtain ⟨lv, hlv'⟩ : ∃ a, a = s.live := ⟨_, rfl⟩
        have hlc : lv ≤ cp := by omega
        have HLV' := Lib.hid hlv'
        have HLIVE : Hid (∀ W, Oth [] wr W → Calls Try.prog 13 #[.pointer (some ⟨p, 0, none⟩)] W fun e w' => e = .returned (.int .i64 lv) ∧ W = w') := fun W hW => by rw [hlv']; exact (hf.quiet hW).live
        have t1 : IntKind.i64.wrap ((cp : Int) - (lv : Int)) = (cp : Int) - (lv : Int) := by rw [IntKind.wrap_i64]; omega
        have hcbl : cb < wr.heap.size := World.block_lt_of_cell? wr _ cc
        have HOA := Lib.hid hoa
        clear hf hnx hsc hnd hDs hav hwf hrd q1 q2 q3 hok hon hob hom hoc hlv hscp hlv' hbi hoa
        go_wp2_with fail
        refine wp_normal ?_
        go_quiet ((go_at_call 13; exact Calls.quiet_of_same ((HLIVE.out _ (by first | exact HOA.out | exact HOA.out.drew | exact HOA.out.drewN _)).mono (fun _ _ h => ⟨h.1, h.2.symm⟩))))
        obtain ⟨V, hV⟩ : ∃ V, V = (wr.alloc (.cells #[.int .i64 ok, .int .i64 on, .slice ob om oc] 31)).drewN nq := ⟨_, rfl⟩
        rw [← hV]
        have hoV : Oth [] (wr.alloc (.cells #[.int .i64 ok, .int .i64 on, .slice ob om oc] 31)) V := by rw [hV]; exact (Oth.refl _ _).drewN _
        obtain ⟨kb, hkb⟩ : ∃ kb, kb = wr.heap.size := ⟨_, rfl⟩
        rw [← hkb] at Q2 Q3 ⊢
        have QV1 := Lib.hid (Q1.out.quiet hoV)
        have QV2 := Lib.hid (Q2.out.oth Q1.out hoV)
        have QV3 := Lib.hid (hoV.heap Q3.out (by simp))
        have HDV : Hid (∀ D, D ∈ Ds → w1.heap.size ≤ D ∧ Bes p s V D ∧ V.heap[D]? = some (.deferred (some []))) := fun D h => by
          obtain ⟨h1, h2, h3⟩ := HDA.out D h
          exact ⟨h1, h2.oth Q1.out hoV, hoV.heap h3 (by simp)⟩
        have d0 : V.cell? ⟨kb, 0, none⟩ = some (.int .i64 ok) := by simp only [World.cell?, QV3.out]; rfl
        have d1 : V.cell? ⟨kb, 1, none⟩ = some (.int .i64 on) := by simp only [World.cell?, QV3.out]; rfl
        clear hV hoV hkb HDA Q1 Q2 Q3 HOA HLIVE c1 c2 c3 hgl cc hcbl
        have key : ok = 1 ∨ ok = 2 ∨ (¬ ok = 1 ∧ ¬ ok = 2) := by omega
        rcases key with rfl | rfl | ⟨hk1, hk2⟩
        case' inl =>
          have HGV := Lib.hid (QV1.out.giveA on (by have := HNX.out; omega))
          go_wp2_with fail
          refine HGV.out.mono ?_
          intro e w3 hgv
          have hh := hgv.mv QV1.out
          obtain ⟨s3, hs3, _, hf3, hmv3⟩ := hh
          have hb3 := (hmv3.bes QV2.out).2.trans QV3.out
          have e1 : w3.cell? ⟨kb, 1, none⟩ = some (.int .i64 on) := by simp only [World.cell?, hb3]; rfl
          have HN : Hid (BI w1 p cp (i + 1) Ds w3) := by
            refine BI.mv hmv3 hf3 ?_ ?_ HND.out HDV.out
            · rcases hs3 with rfl | ⟨m, hg⟩
              · have := HNX.out; omega
              · have := HNX.out; have := hg.next.1; omega
            · rcases hs3 with rfl | ⟨m, hg⟩
              · exact HSC.out
              · rw [hg.next.2]; exact HSC.out
          have key2 : (e = .returned (.tuple #[.int .i64 ((s.next : Int) + 1), .int .i64 0]) ∧ 1 ≤ on ∧ on ≤ (cp : Int) - (lv : Int)) ∨ (∃ er : Int, (er == 0) = false ∧ e = .returned (.tuple #[.int .i64 0, .int .i64 er]) ∧ (¬ 1 ≤ on)) ∨ (∃ er : Int, (er == 0) = false ∧ e = .returned (.tuple #[.int .i64 0, .int .i64 er]) ∧ 1 ≤ on ∧ ¬ on ≤ (cp : Int) - (lv : Int)) := by
            have hsc := HSC.out
            have hlv := HLV'.out
            rcases hgv with ⟨he, m, s', hm, h1, h2, _⟩ | ⟨er, her, he, _⟩
            · exact .inl ⟨he, by omega, by omega⟩
            · have er0 : (er == 0) = false := by rcases her with ⟨rfl, _⟩ | ⟨rfl, _⟩ <;> decide
              by_cases h1 : 1 ≤ on
              · refine .inr (.inr ⟨er, er0, he, h1, ?_⟩)
                rcases her with ⟨_, h⟩ | ⟨_, h⟩ <;> omega
              · exact .inr (.inl ⟨er, er0, he, h1⟩)
          clear hgv hs3 hf3 hmv3 hb3 HGV QV1 QV2 QV3 HDV HNX HSC HND HWF
          rcases key2 with ⟨rfl, g1, g2⟩ | ⟨er, er0, rfl, g1⟩ | ⟨er, er0, rfl, g1, g2⟩
          all_goals go_wp2_with fail
        case' inr.inl =>
          have HFR := Lib.hid (QV1.out.freeA on HWF.out)
          go_wp2_with fail
          refine HFR.out.mono ?_
          intro e w3 hgv
          obtain ⟨s3, hs3, ⟨er, rfl⟩, hf3, hmv3⟩ := hgv.mv QV1.out
          have HN : Hid (BI w1 p cp (i + 1) Ds w3) := by
            refine BI.mv hmv3 hf3 ?_ ?_ HND.out HDV.out
            · rcases hs3 with rfl | ⟨j, x, hx, hk, rfl⟩
              · have := HNX.out; omega
              · have := HNX.out; simp only [freed]; omega
            · rcases hs3 with rfl | ⟨j, x, hx, hk, rfl⟩
              · exact HSC.out
              · exact HSC.out
          clear hgv hs3 hf3 hmv3 HFR QV1 QV2 QV3 HDV HNX HSC HND HWF
          go_wp2_with fail
        case' inr.inr =>
          obtain ⟨w3, hw3⟩ : ∃ w3, w3 = V := ⟨_, rfl⟩
          have HN : Hid (BI w1 p cp (i + 1) Ds w3) := ⟨s, by rw [hw3]; exact QV1.out, by have := HNX.out; omega, HSC.out, HND.out, by rw [hw3]; exact HDV.out⟩
          rw [← hw3] at d0 ⊢
          clear QV1 QV2 QV3 HDV HNX HSC HND HWF hw3 d1
          go_wp2_with fail
        all_goals
          obtain ⟨s4, hf4, hn4, hc4, hnd4, hD4⟩ := HN.out
          have HND4 := Lib.hid hnd4
          have HD4 := Lib.hid hD4
          have HF4 := Lib.hid hf4
          have HN4 := Lib.hid hn4
          have HC4 := Lib.hid hc4
          clear hf4 hn4 hc4 hnd4 hD4
          refine (All_any p _).mono ?_
          rintro e w4 ⟨rfl, t4, rfl⟩
          go_wp2_with fail
          obtain ⟨W4, hW4⟩ : ∃ W4, W4 = ((w3.alloc (.cells #[.int .i64 0] 3)).alloc (.cells #[.int .i64 0] 3)).alloc (.cells #[.pointer (some ⟨p, 0, none⟩)] t4) := ⟨_, rfl⟩
          obtain ⟨tb, htb⟩ : ∃ tb, tb = w3.heap.size := ⟨_, rfl⟩
          obtain ⟨ho34, hht, hhs, hhp, hsz4, hf4, hbt, hbs⟩ := three HF4.out t4 hW4 htb
          rw [← hW4, ← htb]
          have hcap4 := HC4.out
          have hg4 := hf4.good
          obtain ⟨S4, ha4, _⟩ := hf4.ar
          have hpc : W4.cell? ⟨tb + 2, 0, none⟩ = some (.pointer (some ⟨p, 0, none⟩)) := by simp [World.cell?, hhp]
          have HSTOP := Lib.hid (all_stops 4 (by omega) (tb + 2) p [tb, tb + 1] S4 s4 hg4.cnt W4 (by simp; omega) hpc ha4)
          have hcbh : W4.heap[cb]? = some (.cells #[.int .i64 cp] 3 (0, 0)) := hf4.oth.heap (ho1.heap H0S.out (by simp)) (by simp)
          have hrbh : W4.heap[rb]? = some (.cells #[.bool false] 4 (0, 0)) := hf4.oth.heap (ho1.heap H0R.out (by simp)) (by simp)
          have hold : w1.heap.size ≤ tb := by rw [htb]; exact HF4.out.oth.size
          have hc1 := lt_of_block (ho1.heap H0S.out (by simp))
          have hr1 := lt_of_block (ho1.heap H0R.out (by simp))
          have n1 : cb ≠ tb := by omega
          have n2 : cb ≠ tb + 1 := by omega
          have n3 : rb ≠ tb := by omega
          have n4 : rb ≠ tb + 1 := by omega
          have n5 : cb < W4.heap.size := by omega
          have HX : Hid (∀ x : BlkOf s4, 1 ≤ x.1.n ∧ x.1.f + x.1.n ≤ cp) := fun x => by
            have h1 := hg4.blk x.1 x.2
            have h2 := hg4.high
            exact ⟨h1.1, by omega⟩
          have HSRT := Lib.hid hg4.srt
          have HCNT : Hid (s4.L.length ≤ 1000) := hg4.cnt
          have HHT := Lib.hid hht
          have HHS := Lib.hid hhs
          have HCB := Lib.hid hcbh
          have HRB := Lib.hid hrbh
          have HF4' := Lib.hid hf4
          have HBT := Lib.hid hbt
          have HBS := Lib.hid hbs
          have HO34 := Lib.hid ho34
          have HSZ := Lib.hid hsz4
          have HOLD := Lib.hid hold
          have HG4 := Lib.hid hg4
          have HDD : Hid (∀ D, D ∈ Ds → w1.heap.size ≤ D ∧ Bes p s4 W4 D ∧ W4.heap[D]? = some (.deferred (some []))) := fun D h => by
            obtain ⟨h1, h2, h3⟩ := HD4.out D h
            exact ⟨h1, h2.oth HF4.out ho34, ho34.heap h3 (by simp)⟩
          clear hht hhs hcbh hrbh hf4 hbt hbs ho34 hsz4 hold hc1 hr1 hg4 ha4 hpc hhp hW4 htb HF4 HD4 hcap4
          refine (wpIn_wide (n := 5)).1 ?_
          refine wpIn_rangeFunc_box (α := BlkOf s4) rfl (by omega) (gf := 33) (lb := #[.pointer (some ⟨tb + 2, 0, none⟩)]) rfl trivial (enters_of Try.func33 (by kernel_rfl) rfl)
            HSTOP.out (fun h k => h.trans k) (fun W l o o' _ h hc _ => CK.book W l o o' h hc) (Below.refl _ _) (fun _ => rfl)
            (fun pre W => (W.heap[tb]? = some (.cells #[.int .i64 (E (vals pre) pre.length : Nat)] 3 (0, 0)) ∧ W.heap[tb + 1]? = some (.cells #[.int .i64 (sumN (vals pre) : Nat)] 3 (0, 0))) ∧ Oth [tb, tb + 1] W4 W)
            (fun _ pre _ => ¬ vals pre <+: s4.L)
            (OwnFrom.and (OwnFrom.and (heap_ownFrom (f := fun s : List (BlkOf s4) => .cells #[.int .i64 (E (vals s) s.length : Nat)] 3 (0, 0)) (fun _ => rfl)) (heap_ownFrom (f := fun s : List (BlkOf s4) => .cells #[.int .i64 (sumN (vals s) : Nat)] 3 (0, 0)) (fun _ => rfl))) (oth_ownFrom (Nat.le_refl _)))
            (fun _ _ _ _ _ hs _ _ => hs)
            ⟨⟨HHT.out, HHS.out⟩, Oth.refl _ _⟩
            (fun x b W => (b ≠ tb ∧ b ≠ tb + 1) ∧ W.heap[b]? = some (.cells #[.int .i64 x.1.h, .int .i64 x.1.f, .int .i64 x.1.n] 45 (0, 0)))
            (fun x b u A B row hs hg hr => ⟨hs.1, heap_ownFrom (f := fun _ : Unit => .cells #[.int .i64 x.1.h, .int .i64 x.1.f, .int .i64 x.1.n] 45 (0, 0)) (fun _ => rfl) u A B row hs.2 hg hr⟩)
            ?_ ?assign ?body ?done ?stop
          case assign =>
            intro l' pre x W K hi hK
            gi_wp2
            have hlt1 := lt_of_block hi.1.1
            have hlt2 := lt_of_block hi.1.2
            have hoA : Oth [] W (W.alloc (.cells #[.int .i64 x.1.h, .int .i64 x.1.f, .int .i64 x.1.n] 45)) := (Oth.refl _ _).alloc _
            have hnew := heap_alloc_new W (.cells #[.int .i64 x.1.h, .int .i64 x.1.f, .int .i64 x.1.n] 45)
            obtain ⟨bb, hbb⟩ : ∃ bb, bb = W.heap.size := ⟨_, rfl⟩
            rw [← hbb] at hnew ⊢
            exact hK bb _ ((KeepsOthers.alloc _ _).from _) (hoA.mono (S' := [tb, tb + 1]) (by simp)).ck ⟨⟨hoA.heap hi.1.1 (by simp), hoA.heap hi.1.2 (by simp)⟩, hi.2.alloc _⟩ ⟨⟨by omega, by omega⟩, hnew⟩
          case body =>
            rintro l' pre x bb W ⟨⟨hkt, hks⟩, hoW⟩ ⟨⟨hb1, hb2⟩, hbh⟩ hlen
            obtain ⟨x1, x2⟩ := HX.out x
            have hcbW := hoW.heap HCB.out (by simp; omega)
            have hrbW := hoW.heap HRB.out (by simp; omega)
            have hnp := not_pre (x := x.1) (M := vals pre) HSRT.out
            rw [vals_length] at hnp
            have hEn : E (vals (pre ++ [x])) (pre ++ [x]).length = x.1.f + x.1.n := by
              rw [vals_append, List.length_append]
              have := E_last (vals pre) x.1
              rw [vals_length] at this; exact this
            have hSn : sumN (vals (pre ++ [x])) = sumN (vals pre) + x.1.n := by
              rw [vals_append, sumN_append]; simp [vals, sumN]
            have hSb : sumN (vals pre) ≤ pre.length * 300 := by
              rw [← vals_length pre]
              refine sumN_bound (fun y hy => ?_)
              obtain ⟨z, _, rfl⟩ := List.mem_map.1 hy
              have := HX.out z; omega
            obtain ⟨tv, htv⟩ : ∃ a, a = E (vals pre) pre.length := ⟨_, rfl⟩
            obtain ⟨sv, hsv⟩ : ∃ a, a = sumN (vals pre) := ⟨_, rfl⟩
            obtain ⟨xh, hxh⟩ : ∃ a, a = x.1.h := ⟨_, rfl⟩
            obtain ⟨xf, hxf⟩ : ∃ a, a = x.1.f := ⟨_, rfl⟩
            obtain ⟨xn, hxn⟩ : ∃ a, a = x.1.n := ⟨_, rfl⟩
            rw [← htv] at hkt hnp
            rw [← hsv] at hks hSn hSb
            rw [← hxf] at hnp
            rw [← hxf, ← hxn] at hEn x2
            rw [← hxn] at hSn x1
            rw [← hxh, ← hxf, ← hxn] at hbh
            have hcn := HCNT.out
            have d1 : W.cell? ⟨tb, 0, none⟩ = some (.int .i64 tv) := by simp [World.cell?, hkt]
            have d2 : W.cell? ⟨tb + 1, 0, none⟩ = some (.int .i64 sv) := by simp [World.cell?, hks]
            have d3 : W.cell? ⟨bb, 1, none⟩ = some (.int .i64 xf) := by simp [World.cell?, hbh]
            have d4 : W.cell? ⟨bb, 2, none⟩ = some (.int .i64 xn) := by simp [World.cell?, hbh]
            have d5 : W.cell? ⟨cb, 0, none⟩ = some (.int .i64 cp) := by simp [World.cell?, hcbW]
            have d6 : W.cell? ⟨rb, 0, none⟩ = some (.bool false) := by simp [World.cell?, hrbW]
            have f1 : W.frozen? ⟨tb, 0, none⟩ = false := by simp [World.frozen?, hkt]
            have f2 : W.frozen? ⟨tb + 1, 0, none⟩ = false := by simp [World.frozen?, hks]
            have f3 : W.frozen? ⟨rb, 0, none⟩ = false := by simp [World.frozen?, hrbW]
            have HKT := Lib.hid hkt
            have HKS := Lib.hid hks
            have HOW := Lib.hid hoW
            have HNP := Lib.hid hnp
            have HEN := Lib.hid hEn
            have HSN := Lib.hid hSn
            have t2 : ¬ (xn : Int) < 1 := by omega
            have t3 : ¬ (cp : Int) < (xf : Int) + (xn : Int) := by omega
            have t4 : IntKind.i64.wrap ((xf : Int) + (xn : Int)) = (xf : Int) + (xn : Int) := by rw [IntKind.wrap_i64]; omega
            have t5 : IntKind.i64.wrap ((sv : Int) + (xn : Int)) = (sv : Int) + (xn : Int) := by rw [IntKind.wrap_i64]; omega
            clear hkt hks hoW hnp hEn hSn hSb htv hsv hxh hxf hxn hbh hcbW hrbW x1 x2 hcn hlen
            by_cases hq : xf < tv
            · have t1 : (xf : Int) < (tv : Int) := by omega
              gi_wp2
              refine ⟨(KeepsOthers.setCell _ _ _).from _, ?_⟩
              show ¬ vals (pre ++ [x]) <+: s4.L
              rw [vals_append]
              exact HNP.out hq
            · have t1 : ¬ (xf : Int) < (tv : Int) := by omega
              gi_wp2
              refine ⟨((KeepsOthers.setCell _ _ _).trans (KeepsOthers.setCell _ _ _)).from _, (((Oth.refl [tb, tb + 1] W).setCell (p := ⟨tb, 0, none⟩) (.inl (by simp)) _).setCell (p := ⟨tb + 1, 0, none⟩) (.inl (by simp)) _).ck, ⟨?_, ?_⟩, (HOW.out.setCell (p := ⟨tb, 0, none⟩) (.inl (by simp)) _).setCell (p := ⟨tb + 1, 0, none⟩) (.inl (by simp)) _⟩
              · rw [Below.heap_setCell _ _ _ _ (by simp), one_set0 HKT.out, HEN.out]; simp
              · have h1 : (W.setCell ⟨tb, 0, none⟩ (.int .i64 ((xf : Int) + (xn : Int)))).heap[tb + 1]? = some (.cells #[.int .i64 (sv : Int)] 3 (0, 0)) := (Below.heap_setCell _ _ _ _ (by simp)).trans HKS.out
                rw [one_set0 h1, HSN.out]; simp
          case done =>
            rintro D xs W hD hvs ⟨⟨hkt, hks⟩, hoW⟩ hDef
            have hvl : xs.length = s4.L.length := by rw [← hvs, vals_length]
            rw [hvs, hvl] at hkt
            rw [hvs, ← HG4.out.live] at hks
            obtain ⟨hfW, hbW, hnW⟩ := HF4'.out.other hoW (fun k hk => by
              simp at hk
              rcases hk with rfl | rfl
              · exact ⟨HOLD.out, fun _ => HBT.out⟩
              · exact ⟨by have := HOLD.out; omega, fun _ => HBS.out⟩)
            have hcbW := hoW.heap HCB.out (by simp; omega)
            have hE := E_leH (fun x hx => (HG4.out.blk x hx).2.1) s4.L.length
            have hgo := HG4.out
            have hpk := hgo.peak
            have hhi := hgo.high
            have hca := hgo.cap
            have hc4 := HC4.out
            obtain ⟨ev, hev⟩ : ∃ a, a = E s4.L s4.L.length := ⟨_, rfl⟩
            obtain ⟨lv4, hlv4⟩ : ∃ a, a = s4.live := ⟨_, rfl⟩
            obtain ⟨hv4, hhv4⟩ : ∃ a, a = s4.high := ⟨_, rfl⟩
            obtain ⟨pv4, hpv4⟩ : ∃ a, a = s4.peak := ⟨_, rfl⟩
            rw [← hev] at hkt hE
            rw [← hlv4] at hks hpk
            rw [← hhv4] at hE hhi
            rw [← hpv4] at hpk
            have d1 : W.cell? ⟨tb, 0, none⟩ = some (.int .i64 ev) := by simp [World.cell?, hkt]
            have d2 : W.cell? ⟨tb + 1, 0, none⟩ = some (.int .i64 lv4) := by simp [World.cell?, hks]
            have d5 : W.cell? ⟨cb, 0, none⟩ = some (.int .i64 cp) := by simp [World.cell?, hcbW]
            have HL : Hid (∀ V, Oth [] W V → Calls Try.prog 13 #[.pointer (some ⟨p, 0, none⟩)] V fun e w' => e = .returned (.int .i64 lv4) ∧ V = w') := fun V hV => by rw [hlv4]; exact (hfW.quiet hV).live
            have HHg : Hid (∀ V, Oth [] W V → Calls Try.prog 21 #[.pointer (some ⟨p, 0, none⟩)] V fun e w' => e = .returned (.int .i64 hv4) ∧ V = w') := fun V hV => by rw [hhv4]; exact (hfW.quiet hV).high
            have HPk : Hid (∀ V, Oth [] W V → Calls Try.prog 23 #[.pointer (some ⟨p, 0, none⟩)] V fun e w' => e = .returned (.int .i64 pv4) ∧ V = w') := fun V hV => by rw [hpv4]; exact (hfW.quiet hV).peak
            have t1 : ¬ (hv4 : Int) < (ev : Int) := by omega
            have t2 : ¬ (cp : Int) < (hv4 : Int) := by omega
            have t3 : ¬ (cp : Int) < (pv4 : Int) := by omega
            have t4 : ¬ (pv4 : Int) < (lv4 : Int) := by omega
            have g0 : ((lv4 : Int) != (lv4 : Int)) = false := by simp
            have g1 : decide ((hv4 : Int) < (ev : Int)) = false := decide_eq_false t1
            have g2 : decide ((cp : Int) < (hv4 : Int)) = false := decide_eq_false t2
            have g3 : decide ((cp : Int) < (pv4 : Int)) = false := decide_eq_false t3
            have g4 : decide ((pv4 : Int) < (lv4 : Int)) = false := decide_eq_false t4
            have k1 : ¬ hv4 < ev := by omega
            have k2 : ¬ cp < hv4 := by omega
            have k3 : ¬ cp < pv4 := by omega
            have k4 : ¬ pv4 < lv4 := by omega
            have HBI : Hid (∀ V, Oth [] W V → BI w1 p cp (i + 1) (D :: Ds) V) := fun V hV => by
              refine ⟨s4, hfW.quiet hV, HN4.out, HC4.out, List.nodup_cons.2 ⟨fun hm => ?_, HND4.out⟩, fun k hk => ?_⟩
              · have := (HDD.out D hm).2.1.1; omega
              · rcases List.mem_cons.1 hk with rfl | hk
                · refine ⟨by have := HOLD.out; have := HSZ.out; omega, (hnW k hD (lt_of_block hDef)).oth hfW hV, hV.heap hDef (by simp)⟩
                · obtain ⟨h1, h2, h3⟩ := HDD.out k hk
                  refine ⟨h1, (hbW k h2).oth hfW hV, hV.heap (hoW.heap h3 ?_) (by simp)⟩
                  intro hm
                  simp at hm
                  rcases hm with rfl | rfl
                  · rw [HHT.out] at h3; cases h3
                  · rw [HHS.out] at h3; cases h3
            clear hkt hks hoW hvs hvl hfW hbW hnW hcbW hE hgo hpk hhi hca hc4 hev hlv4 hhv4 hpv4
            gi_wp2
            go_wp2_with fail
            refine wp_normal ?_
            go_quiet (first
              | (go_at_call 13; exact Calls.quiet_of_same ((HL.out _ (by first | exact Oth.refl _ _ | exact (Oth.refl _ _).drew | exact (Oth.refl _ _).drewN _)).mono (fun _ _ h => ⟨h.1, h.2.symm⟩)))
              | (go_at_call 21; exact Calls.quiet_of_same ((HHg.out _ (by first | exact Oth.refl _ _ | exact (Oth.refl _ _).drew | exact (Oth.refl _ _).drewN _)).mono (fun _ _ h => ⟨h.1, h.2.symm⟩)))
              | (go_at_call 23; exact Calls.quiet_of_same ((HPk.out _ (by first | exact Oth.refl _ _ | exact (Oth.refl _ _).drew | exact (Oth.refl _ _).drewN _)).mono (fun _ _ h => ⟨h.1, h.2.symm⟩))))
            go_wp2_with fail
            refine ⟨⟨⟨i + 1, D :: Ds, by omega, ⟨congrArg (fun z => some (Value.int .i64 z)) (by omega : (i : Int) + 1 = ((i + 1 : Nat) : Int)), rfl, rfl, rfl, rfl, rfl, rfl, rfl⟩, HBI.out _ ((Oth.refl _ _).drewN _)⟩⟩, ?_⟩
            show ((n : Int) - ((i : Int) + 1)).toNat < ((n : Int) - (i : Int)).toNat
            omega
          case stop =>
            rintro D c pre W _ h1 h2 _
            exact absurd h1 h2
      · obtain rfl : i = n := by omega
        have u1' : ¬ (i : Int) < (i : Int) := by omega
        obtain ⟨s, hf, hnx, hsc, hnd, hDs⟩ := hbi.out
        have HF := Lib.hid hf
        have HND := Lib.hid hnd
        have HDS := Lib.hid hDs
        clear hf hnx hsc hnd hDs
        go_wp2_with fail
        refine (awake_any _).mono ?_
        rintro e w4 ⟨rfl, ho4⟩
        have ho5 : Oth [] W0 w4 := (ho1.trans HF.out.oth (Fr.nil _ _)).trans ho4 (Fr.nil _ _)
        obtain ⟨f1, f2, f3, f4⟩ := (EARLY _ ho5).out
        have HO4 := Lib.hid ho4
        have F3 := Lib.hid f3
        have F4 := Lib.hid f4
        have hrl := lt_of_block (ho1.heap H0R.out (by simp))
        have hne : ∀ D, D ∈ Ds → D ≠ rb := fun D hD e => by
          have := (HDS.out D hD).1; omega
        have HNE := Lib.hid hne
        have HLR : Hid (rb < w1.heap.size) := hrl
        clear ho4 ho5 f3 f4 hne hrl
        go_wp2
        refine leaves_marks Ds _ HND.out (fun D hD => ?_) ?_
        · obtain ⟨h1, h2, h3⟩ := HDS.out D hD
          rw [Below.heap_setCell _ _ _ _ (HNE.out D hD)]
          exact HO4.out.heap h3 (by simp)
        · have hb : w.heap.size ≤ w1.heap.size := (ho0.trans ho1 (Fr.nil _ _)).size
          refine ⟨.bool true, ?_, rfl, shut_oth Ds _ F4.out (fun D hD => by have := (HDS.out D hD).1; omega)⟩
          have hcell : (shut Ds (w4.setCell ⟨rb, 0, none⟩ (.bool true))).cell? ⟨rb, 0, none⟩ = some (.bool true) := by
            rw [World.cell?_of_block (w := w4.setCell ⟨rb, 0, none⟩ (.bool true)) (shut_heap Ds _ (fun hm => HNE.out _ hm rfl))]
            exact F3.out
          simp [results, Try.f6, go_sem, hcell]

theorem arenaBounds_walk (cap : Int) (base : Option Addr) (n c : Nat) (l : List OpV) (w0 : (Lit.int .i64 cap).wf = true) {w : World} (hR : ReadsO base n l w) (W : World) (hW : W = w := by rfl) :
    Calls Try.prog 6 #[.int .i64 cap, .slice base n c] W fun e w' => e = .returned (.bool true) ∧ Below W.heap.size W w' := by
  subst hW
  refine (arenaBounds_any cap base n c l W hR).mono ?_
  rintro e w' ⟨rfl, ho⟩
  exact ⟨rfl, ho.below (Nat.le_refl _) (by simp)⟩
end Go.Proofs.Ythllilkafdgheaa
