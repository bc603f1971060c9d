/- The walk of Give where it gives a block. Condition: small numbers, the blocks in order, room. -/
import Derived.Test.YthllilkafdgheaaAm
namespace Go.Proofs.Ythllilkafdgheaa
open Go.RowKit
set_option linter.unusedVariables false
set_option linter.unusedSimpArgs false

/-- One block set into the blocks, nil or not. -/
theorem insert_blk (bv : Value) (M : List Blk) (i : Nat) (b : Blk) (vb : Nat) (w : World) (h : w.ownsRow 0 45 3 bv M.length (bcs M)) (hv : w.heap[vb]? = some (.cells #[.int .i64 b.h, .int .i64 b.f, .int .i64 b.n] 45 (0, 0))) (hne : bv.ownBlock ≠ some vb) (hn : M.length ≤ 1000) (hi : i ≤ M.length) :
    Calls Try.prog 29 #[bv, .int .i64 i, .slice (some ⟨vb, 0, none⟩) 1 1] w fun e w' => ∃ g2 cap2, e = .returned (.slice (some ⟨g2, 0, none⟩) (M.length + 1) cap2) ∧ Row 45 3 g2 (M.length + 1) cap2 (bcs (M.take i ++ b :: M.drop i)) w' ∧ Oth bv.ownBlock.toList w w' ∧ (bv.ownBlock = some g2 ∨ w.heap.size ≤ g2) := by
  rcases h.2 with ⟨h5, h6⟩ | ⟨g, c, cur, h5, h6, h7, h8, h9, h10, h11⟩
  · have hM : M = [] := List.eq_nil_of_length_eq_zero h6
    subst hM
    obtain rfl : i = 0 := by simpa using hi
    subst h5
    refine (insert_nil vb _ _ _ w hv rfl rfl rfl).mono ?_
    rintro e w' ⟨g', cap', rfl, h1, h2, h3⟩
    exact ⟨g', cap', rfl, h1, h2.mono (by simp), .inr h3⟩
  · have hr : Row 45 3 g M.length c (bcs M) w := by
      rcases Nat.eq_zero_or_pos M.length with h0 | h0
      · rw [h0] at h8 ⊢
        have hM : M = [] := List.eq_nil_of_length_eq_zero h0
        subst hM
        exact ⟨cur, h7, h8, h9, h10, rfl, fun j hj => by omega⟩
      · obtain ⟨g2, c2, he, _, hr⟩ := row_of_owns h h0
        rw [h5] at he
        injection he with e1 e2 e3
        cases e1; subst e3; exact hr
    subst h5
    refine (insert_any g M.length c i vb (bcs M) _ _ _ w hr hv (fun e => hne (by rw [e]; rfl)) (bcs_one M) rfl rfl rfl hn hi).mono ?_
    rintro e w' ⟨g', cap', rfl, h1, h2, h3⟩
    rw [bcs_ins] at h1
    exact ⟨g', cap', rfl, h1, h2.mono (by intro k hk; simp at hk; subst hk; simp [Value.ownBlock]), h3.imp (fun e => by rw [e]; rfl) id⟩

/-- What is known when the words are long enough: before they are cleared. -/
structure Pre (p : Nat) (S : List Nat) (s : St) (M : List Blk) (pk mv : Nat) (bv : Value) (mb cg cc H : Nat) (cs1 : List Int) (w w4 : World) : Prop where
  obj : w4.heap[p]? = some (.cells (arCells { s with L := M, packed := pk, moves := mv } (.slice (some ⟨cg, 0, none⟩) H cc) bv mb) 63 (0, 0))
  row : Row 59 1 cg H cc (cs1.map (Value.int .i64)) w4
  bl : w4.ownsRow 0 45 3 bv M.length (bcs M)
  map : MapI mb M w4
  ne1 : cg ≠ p
  ne2 : cg ≠ mb
  ne3 : bv.ownBlock ≠ some cg
  ne4 : mb ≠ p
  ne5 : ∀ k, bv.ownBlock = some k → k ≠ p ∧ k ≠ mb
  data : ∀ b, b ∈ M → (cs1.drop b.f).take b.n = b.d
  oth : Oth S w w4
  frc : cg ∈ S ∨ w.heap.size ≤ cg
  inp : p ∈ S
  inm : mb ∈ S
  inb : ∀ k, bv.ownBlock = some k → k ∈ S

set_option maxHeartbeats 8000000 in
set_option maxRecDepth 100000 in
theorem Give_ok (p : Nat) (S : List Nat) (s : St) (words : Nat) (w : World) (h : Ar p S s w) (hg : Good s) (hnx : s.next < 1000) (h1 : 1 ≤ words) (h2 : words ≤ 65536) (h3 : s.live + words ≤ s.cap) :
    Calls Try.prog 11 #[.pointer (some ⟨p, 0, none⟩), .int .i64 words] w fun e w' => e = .returned (.tuple #[.int .i64 ((s.next : Int) + 1), .int .i64 0]) ∧ ∃ S' s', Given s words s' ∧ Ar p S' s' w' ∧ Fr S w S' ∧ Oth S w w' := by
  have HH := Lib.hid h
  obtain ⟨cv, bv, mb, cs, hS, ha⟩ := h
  have c0 : w.cell? ⟨p, 0, none⟩ = some (.int .i64 s.cap) := ha.cell rfl
  have c6 : w.cell? ⟨p, 6, none⟩ = some (.int .i64 s.live) := ha.cell rfl
  have hcap := hg.cap
  have H3 := Lib.hid h3
  obtain ⟨cp, hcp⟩ : ∃ a, a = s.cap := ⟨_, rfl⟩
  obtain ⟨lv, hlv⟩ : ∃ a, a = s.live := ⟨_, rfl⟩
  rw [← hcp] at c0 h3 hcap
  rw [← hlv] at c6 h3
  have t1 : ¬ (words : Int) < 1 := by omega
  have t2 : ¬ (65536 : Int) < (words : Int) := by omega
  have t3 : ¬ (cp : Int) - (lv : Int) < (words : Int) := by omega
  have t4 : IntKind.i64.wrap ((cp : Int) - (lv : Int)) = (cp : Int) - (lv : Int) := by rw [IntKind.wrap_i64]; omega
  have HG := Lib.hid hg
  have HCP := Lib.hid hcp
  have HLV := Lib.hid hlv
  clear ha hg hcp hlv hS cv bv mb cs
  go_enter Try.func11, Try.ntmps11
  go_wp2_with fail
  go_quiet (fail)
  obtain ⟨V, hV⟩ : ∃ V, V = w.drewN nq := ⟨_, rfl⟩
  rw [← hV]
  have hoV : Oth [] w V := by rw [hV]; exact (Oth.refl _ _).drewN _
  clear hV c0 c6
  go_wp2_with fail
  refine (gap_any p S s words V (HH.out.oth hoV (by simp)) HG.out.sm (by omega)).mono ?_
  rintro e w1 ⟨k, i, ok, rfl, hgap, ha1, ho1⟩
  have ho1w : Oth S w w1 := (hoV.mono (by simp)).trans ho1 (Fr.refl _ _)
  have hib : i ≤ 1000 := Nat.le_trans hgap.le3 HG.out.cnt
  cases ok with
  | true =>
    have HS1 : Hid (∃ M pk mv, Ar p S { s with L := M, packed := pk, moves := mv } w1 ∧ Fit s words M i pk mv) := ⟨_, _, _, ha1, fit_gap HG.out hgap H3.out⟩
    have HO1 := Lib.hid ho1w
    clear hgap ha1 ho1 ho1w HH hoV H3
    obtain ⟨M, pk, mv, har, hfit⟩ := HS1.out
    have HEND : Hid (Calls Try.prog 28 #[.pointer (some ⟨p, 0, none⟩), .int .i64 ((i : Int) - 1)] w1 fun e w' => e = .returned (.int .i64 (E M i)) ∧ ∃ k, w' = w1.drewN k) :=
      end_any (s := { s with L := M, packed := pk, moves := mv }) i har ⟨HG.out.cap, by simp only; rw [hfit.len]; exact HG.out.cnt, fun b hb => by have := hfit.blk b hb; have := HG.out.high; have := HG.out.cap; have := HG.out.next; omega, hfit.pk⟩ hfit.le
    go_wp2_with fail
    refine HEND.out.mono ?_
    rintro e w2 ⟨rfl, k2, hk2⟩
    have ho2 : Oth [] w1 w2 := by rw [hk2]; exact (Oth.refl _ _).drewN _
    obtain ⟨cv, bv, mb, cs, hS, ha⟩ := har.oth ho2 (by simp)
    have HO2 := Lib.hid (HO1.out.trans (ho2.mono (S' := S) (by simp)) (Fr.refl _ _))
    obtain ⟨f, hf⟩ : ∃ a, a = E M i := ⟨_, rfl⟩
    obtain ⟨hi, hhi⟩ : ∃ a, a = s.high := ⟨_, rfl⟩
    rw [← hf]
    have b1 : f + words ≤ cp := by rw [hf, HCP.out]; exact hfit.fit
    have b2 : hi ≤ 16777216 := by rw [hhi]; have := HG.out.high; have := HG.out.cap; omega
    obtain ⟨cbo, ccap, hcv⟩ : ∃ b c, cv = .slice b hi c := by
      rw [hhi]
      rcases ha.cells.2 with ⟨h5, h6⟩ | ⟨g, c, _, h5, _⟩
      · exact ⟨none, 0, by rw [h5]; simp only at h6; rw [h6]⟩
      · exact ⟨_, c, h5⟩
    have c1 : w2.cell? ⟨p, 1, none⟩ = some (.slice cbo hi ccap) := by rw [← hcv]; exact ha.cell rfl
    have hne := ha.ne
    have hcvb : (Value.slice cbo hi ccap).ownBlock = cv.ownBlock := by rw [hcv]
    have HOBJ := Lib.hid ha.obj
    have HCV := Lib.hid hcv
    have hcells := ha.cells
    rw [hcv, ← hhi] at hcells
    have HA := Lib.hid ha
    have HF := Lib.hid hf
    have HHI := Lib.hid hhi
    have HFIT := Lib.hid hfit
    have HSS := Lib.hid hS
    have HNE := Lib.hid hne
    clear ha har hfit hk2 hf hhi hcv hS ho2 HEND hne
    -- what is known when the words are long enough
    by_cases hgrow : hi < f + words
    · have t5 : (0 : Int) < (f : Int) + (words : Int) - (hi : Int) := by omega
      obtain ⟨m, hm⟩ : ∃ m, m = f + words - hi := ⟨_, rfl⟩
      have t6 : (f : Int) + (words : Int) - (hi : Int) = (m : Int) := by omega
      have t7 : IntKind.i64.wrap ((f : Int) + (words : Int)) = (f : Int) + (words : Int) := by rw [IntKind.wrap_i64]; omega
      have t8 : IntKind.i64.wrap ((f : Int) + (words : Int) - (hi : Int)) = (m : Int) := by rw [IntKind.wrap_i64]; omega
      obtain ⟨cg, cc, w3, hrz, hrow3, ho3, hwh3⟩ := run_zeros w2 23 (.slice cbo hi ccap) hi m cs hcells (by omega) (by omega)
      have hmm : hi + m = f + words := by omega
      rw [hmm] at hrz hrow3
      have hobj3 : w3.heap[p]? = some (.cells (arCells { s with L := M, packed := pk, moves := mv } cv bv mb) 63 (0, 0)) := ho3.heap HOBJ.out (by rw [hcvb]; intro hk; simp only [Option.mem_toList] at hk; exact (HNE.out.2.1 p hk).1 rfl)
      have d1 : w3.cell? ⟨p, 1, none⟩ = some (.slice cbo hi ccap) := obj_cell hobj3 (by rw [← HCV.out]; rfl)
      have d1f := obj_free hobj3 1
      have hcgp : cg ≠ p := by
        rcases hwh3 with h | h
        · rw [hcvb] at h; exact (HNE.out.2.1 cg h).1
        · have := lt_of_block HOBJ.out; omega
      have hcgm : cg ≠ mb := by
        rcases hwh3 with h | h
        · rw [hcvb] at h; exact (HNE.out.2.1 cg h).2
        · have := HA.out.map.lt; omega
      have hcgb : bv.ownBlock ≠ some cg := by
        rcases hwh3 with h | h
        · rw [hcvb] at h; exact HNE.out.2.2.2 cg h
        · intro e; have := (HA.out.blocks.lt cg e).2; omega
      have hnin : ∀ k, k ∈ (Value.slice cbo hi ccap).ownBlock.toList → cv.ownBlock = some k := fun k hk => by rw [hcvb] at hk; simpa using hk
      obtain ⟨w4, hw4⟩ : ∃ w4, w4 = w3.setCell ⟨p, 1, none⟩ (.slice (some ⟨cg, 0, none⟩) (f + words) cc) := ⟨_, rfl⟩
      have HPRE : Hid (Pre p S s M pk mv bv mb cg cc (f + words) (cs ++ List.replicate m 0) w w4) := by
        have hcsl : cs.length = hi := by have := hcells.1; simpa using this
        refine ⟨?_, ?_, ?_, ?_, hcgp, hcgm, hcgb, HNE.out.1, HNE.out.2.2.1, fun b hb => ?_, ?_, ?_, ?_, ?_, ?_⟩
        · rw [hw4, obj_put hobj3]; simp [arCells]
        · rw [hw4]; exact hrow3.other hcgp _
        · rw [hw4]; exact owns_other (owns_oth HA.out.blocks ho3 (fun k hk e => HNE.out.2.2.2 k (hnin k e) hk)) (fun k hk => (HNE.out.2.2.1 k hk).1) _
        · rw [hw4]; exact (HA.out.map.oth ho3 (fun e => (HNE.out.2.1 mb (hnin mb e)).2 rfl)).other HNE.out.1 _
        · have h5 := HFIT.out.blk b hb
          rw [← HA.out.data b hb]
          have h6 : b.f + b.n ≤ cs.length := by rw [hcsl, HHI.out]; exact h5.2.1
          rw [List.drop_append_of_le_length (by omega), List.take_append_of_le_length (by simp; omega)]
        · rw [hw4]
          refine (HO2.out.trans (ho3.mono (S' := S) (fun k hk => ?_)) (Fr.refl _ _)).setCell (.inl ?_) _
          · rw [HSS.out]; simp [own4, hnin k hk]
          · rw [HSS.out]; simp [own4]
        · rcases hwh3 with h | h
          · rw [hcvb] at h; left; rw [HSS.out]; simp [own4, h]
          · right; have := HO2.out.size; omega
        · rw [HSS.out]; simp [own4]
        · rw [HSS.out]; simp [own4]
        · intro k hk; rw [HSS.out]; simp [own4, hk]
      have hcc := hrow3.cap_le
      have b5 : f + words ≤ cc := hcc.1
      have b6 : cc ≤ 9223372036854775807 := by have := hcc.2; unfold maxLen at this; omega
      have b7 : (f : Int) + (words : Int) ≤ (cc : Int) := by omega
      have b8 : ¬ (cc = f) := by omega
      have b9 : f + words - f = words := by omega
      have b10 : (f : Int) ≤ (f : Int) + (words : Int) := by omega
      have b11 : (f : Int) ≤ (cc : Int) := by omega
      have HW4 := Lib.hid hw4
      have d4 : w4.cell? ⟨p, 1, none⟩ = some (.slice (some ⟨cg, 0, none⟩) (f + words) cc) := obj_cell HPRE.out.obj rfl
      have t9 : (0 : Int) < (m : Int) := by omega
      have hclr : ∀ c', (Builtin.clear_ #[23] 0 #[.slice (some ⟨cg, f, none⟩) words c']).run Try.prog (w3.setCell ⟨p, 1, none⟩ (.slice (some ⟨cg, 0, none⟩) (f + words) cc)) = .ok (.tuple #[]) (w4.setCells cg f (List.replicate words (.int .i64 0))) := fun c' => by
        rw [← hw4]
        exact run_clear_words w4 0 cg f words c' (by omega) (fun j hj => HPRE.out.row.there (by omega)) (fun j hj => HPRE.out.row.free _)
      obtain ⟨W, hW⟩ : ∃ W, W = w4.setCells cg f (List.replicate words (.int .i64 0)) := ⟨_, rfl⟩
      rw [← hW] at hclr
      have HW := Lib.hid hW
      obtain ⟨H, hH⟩ : ∃ H, H = f + words := ⟨_, rfl⟩
      rw [← hH] at HPRE
      have HHH : Hid (H = max s.high (E M i + words) ∧ f + words ≤ H) := ⟨by rw [hH, HF.out, ← HHI.out, Nat.max_def]; rw [HF.out] at hgrow; split <;> omega, by omega⟩
      have CS1 : Hid (∃ cs1, Pre p S s M pk mv bv mb cg cc H cs1 w w4) := ⟨_, HPRE.out⟩
      clear hm hrow3 hobj3 ho3 hwh3 hcc hnin hcells hcvb hw4 t5 hmm hW hH HPRE
      obtain ⟨cs1, hpre⟩ := CS1.out
      have hoW : Oth [cg] w4 W := by rw [HW.out]; exact (Oth.refl _ _).setCells (.inl (by simp)) _ _
      have hobjW := hoW.heap hpre.obj (by simpa using Ne.symm hpre.ne1)
      obtain ⟨nx, hnx'⟩ : ∃ a, a = s.next := ⟨_, rfl⟩
      obtain ⟨bb, bcap, hbv⟩ : ∃ b c, bv = .slice b M.length c := by obtain ⟨b, c, h, _⟩ := owns_blocks hpre.bl; exact ⟨b, c, h⟩
      have d5 : W.cell? ⟨p, 5, none⟩ = some (.int .i64 nx) := by rw [hnx']; exact obj_cell hobjW rfl
      have f5 := obj_free hobjW 5
      have d2 : W.cell? ⟨p, 2, none⟩ = some (.slice bb M.length bcap) := by rw [← hbv]; exact obj_cell hobjW rfl
      have hpW := lt_of_block hobjW
      rw [← hnx'] at hnx
      have HNX := Lib.hid hnx'
      have HBV := Lib.hid hbv
      have HPR := Lib.hid hpre
      clear hpre hobjW hnx' hbv
      go_wp2_with (first
        | (at_builtin; refine Lib.wpList_append_run _ rfl _ _ _ _ rfl _ _ rfl rfl _ _ hrz ?_)
        | (at_builtin; refine wpList_clear_run _ rfl _ 23 rfl _ rfl (hclr _) ?_))
      obtain ⟨W6, hW6⟩ : ∃ W6, W6 = W.setCell ⟨p, 5, none⟩ (.int .i64 ((nx : Int) + 1)) := ⟨_, rfl⟩
      have ho6 : Oth [p] W W6 := by rw [hW6]; exact (Oth.refl _ _).setCell (.inl (by simp)) _
      have hobj6 : W6.heap[p]? = some (.cells (arCells { s with L := M, packed := pk, moves := mv, next := s.next + 1 } (.slice (some ⟨cg, 0, none⟩) H cc) bv mb) 63 (0, 0)) := by
        have := obj_put (hoW.heap HPR.out.obj (by simpa using Ne.symm HPR.out.ne1)) 5 (.int .i64 ((nx : Int) + 1))
        rw [hW6, this, HNX.out]; simp [arCells]
      rw [← hW6]
      have e2 : W6.cell? ⟨p, 2, none⟩ = some (.slice bb M.length bcap) := by rw [← HBV.out]; exact obj_cell hobj6 rfl
      have e5 : W6.cell? ⟨p, 5, none⟩ = some (.int .i64 ((nx : Int) + 1)) := by rw [HNX.out]; exact obj_cell hobj6 rfl
      have hp6 := lt_of_block hobj6
      have hbl6 : W6.ownsRow 0 45 3 bv M.length (bcs M) := owns_oth (owns_oth HPR.out.bl hoW (fun k hk e => by simp at e; subst e; exact HPR.out.ne3 hk)) ho6 (fun k hk e => by simp at e; subst e; exact (HPR.out.ne5 _ hk).1 rfl)
      have HINS : Hid (Calls Try.prog 29 #[.slice bb M.length bcap, .int .i64 i, .slice (some ⟨W6.heap.size, 0, none⟩) 1 1] (W6.alloc (.cells #[.int .i64 ((nx : Int) + 1), .int .i64 f, .int .i64 words] 45)).drew fun e w' => ∃ g2 cap2, e = .returned (.slice (some ⟨g2, 0, none⟩) (M.length + 1) cap2) ∧ w'.cell? ⟨p, 5, none⟩ = some (.int .i64 ((nx : Int) + 1)) ∧ w'.cell? ⟨p, 2, none⟩ = some (.slice bb M.length bcap) ∧ w'.frozen? ⟨p, 2, none⟩ = false ∧ (w'.setCell ⟨p, 2, none⟩ (.slice (some ⟨g2, 0, none⟩) (M.length + 1) cap2)).cell? ⟨p, 5, none⟩ = some (.int .i64 ((nx : Int) + 1)) ∧ Hid (Row 45 3 g2 (M.length + 1) cap2 (bcs (M.take i ++ ⟨s.next + 1, f, words, List.replicate words 0⟩ :: M.drop i)) w' ∧ Oth bv.ownBlock.toList W6 w' ∧ (bv.ownBlock = some g2 ∨ W6.heap.size ≤ g2))) := by
        have ho7 : Oth [] W6 (W6.alloc (.cells #[.int .i64 ((nx : Int) + 1), .int .i64 f, .int .i64 words] 45)).drew := ((Oth.refl _ _).alloc _).drew
        have := insert_blk bv M i ⟨s.next + 1, f, words, List.replicate words 0⟩ W6.heap.size (W6.alloc (.cells #[.int .i64 ((nx : Int) + 1), .int .i64 f, .int .i64 words] 45)).drew (owns_oth hbl6 ho7 (by simp)) (by rw [HNX.out]; exact heap_alloc_new _ _) (fun e => by have := (hbl6.lt _ e).2; omega) (by rw [HFIT.out.len]; exact HG.out.cnt) HFIT.out.le
        rw [HBV.out] at this ⊢
        refine this.mono ?_
        rintro e w' ⟨g2, cap2, rfl, q1, q2, q3⟩
        rw [← HBV.out] at q2 q3
        have q4 : Oth bv.ownBlock.toList W6 w' := (ho7.mono (by simp)).trans q2 (Fr.refl _ _)
        have hobj7 := q4.heap hobj6 (fun e => by simp only [Option.mem_toList] at e; exact (HPR.out.ne5 _ e).1 rfl)
        refine ⟨g2, cap2, rfl, by rw [HNX.out]; exact obj_cell hobj7 rfl, by rw [← HBV.out]; exact obj_cell hobj7 rfl, obj_free hobj7 2, ?_, q1, by rw [← HBV.out]; exact q4, by rw [← HBV.out]; exact q3.imp id (fun h => by simp at h; omega)⟩
        exact obj_cell (obj_put hobj7 2 _) (by rw [HNX.out]; simp [arCells])
      have HOBJ6 := Lib.hid hobj6
      have HW6 := Lib.hid hW6
      clear hobj6 hW6 hbl6
      go_region_with ((go_at_call 29; refine HINS.out.mono ?_; rintro e w7 ⟨g2, cap2, rfl, k1, k2, k3, k4, HFI⟩))
      all_goals
        obtain ⟨W8, hW8⟩ : ∃ W8, W8 = w7.setCell ⟨p, 2, none⟩ (.slice (some ⟨g2, 0, none⟩) (M.length + 1) cap2) := ⟨_, rfl⟩
        obtain ⟨hrow7, ho7, hg2⟩ := HFI.out
        have hobj7 := ho7.heap HOBJ6.out (fun e => by simp only [Option.mem_toList] at e; exact (HPR.out.ne5 _ e).1 rfl)
        have hobj8 : W8.heap[p]? = some (.cells (arCells { s with L := M, packed := pk, moves := mv, next := s.next + 1 } (.slice (some ⟨cg, 0, none⟩) H cc) (.slice (some ⟨g2, 0, none⟩) (M.length + 1) cap2) mb) 63 (0, 0)) := by
          rw [hW8, obj_put hobj7]; simp [arCells]
        have ho78 : Oth [p] w7 W8 := by rw [hW8]; exact (Oth.refl _ _).setCell (.inl (by simp)) _
        rw [← hW8]
        have x3 : W8.cell? ⟨p, 3, none⟩ = some (.map (some mb)) := obj_cell hobj8 rfl
        have x5 : W8.cell? ⟨p, 5, none⟩ = some (.int .i64 ((nx : Int) + 1)) := by rw [HNX.out]; exact obj_cell hobj8 rfl
        have hg2p : g2 ≠ p := by
          rcases hg2 with h | h
          · exact (HPR.out.ne5 _ h).1
          · omega
        have hmapW : MapI mb M W := HPR.out.map.oth hoW (by simpa using Ne.symm HPR.out.ne2)
        have hmb6 : mb < W6.heap.size := by have := hmapW.lt; have := ho6.size; omega
        have hg2m : g2 ≠ mb := by
          rcases hg2 with h | h
          · exact (HPR.out.ne5 _ h).2
          · omega
        have hmap8 : MapI mb M W8 := ((hmapW.oth ho6 (by simpa using HPR.out.ne4)).oth ho7 (fun e => by simp only [Option.mem_toList] at e; exact (HPR.out.ne5 _ e).2 rfl)).oth ho78 (by simpa using HPR.out.ne4)
        have hst : ∃ w9, (Instr.mapUpdate 60 (.map (some mb)) (.int .i64 ((nx : Int) + 1)) (.int .i64 (f : Int))).run Try.prog W8.drew = .ok () w9 ∧ MapI mb (M.take i ++ ⟨s.next + 1, f, words, List.replicate words 0⟩ :: M.drop i) w9 ∧ Oth [mb] W8 w9 := by
          obtain ⟨D, hD, hMD⟩ := hmap8.oth (S := []) ((Oth.refl _ _).drew) (by simp)
          obtain ⟨w9, r1, r2, r3⟩ := hD.store law3 Try.underlying60 (by rw [HFIT.out.len]; have := HG.out.cnt; unfold maxLen; omega) (Maps.keyOf_int_mk Try.underlying3 (a := (nx : Int) + 1) (wf63 (by omega) (by omega))) (plainElem_int Try.underlying3 (a := (f : Int)) (wf63 (by omega) (by omega)))
          refine ⟨w9, r1, mapI_of r2 ?_, ((Oth.refl [mb] W8).drew).grown r3.grown (fun k hk => by cases hk; exact .inl (by simp))⟩
          have hnn : ((nx : Int) + 1) = ((s.next + 1 : Nat) : Int) := by have := HNX.out; omega
          rw [hnn]
          have hno : ∀ b, b ∈ M → b.h ≠ s.next + 1 := fun b hb => by have := (HFIT.out.blk b hb).2.2; omega
          refine hMD.put (s.next + 1) f ?_ (fun b hb => ?_) ⟨⟨s.next + 1, f, words, List.replicate words 0⟩, by simp, rfl⟩ (fun b hb _ => ⟨b, ?_, rfl⟩)
          · rw [if_neg (fun ⟨b, h1, h2⟩ => hno b h1 h2)]
            have := HFIT.out.le
            simp; omega
          · rw [List.mem_append, List.mem_cons] at hb
            rcases hb with hb | rfl | hb
            · exact .inr ⟨hno b (List.mem_of_mem_take hb), List.mem_of_mem_take hb⟩
            · exact .inl ⟨rfl, rfl⟩
            · exact .inr ⟨hno b (List.mem_of_mem_drop hb), List.mem_of_mem_drop hb⟩
          · rw [← List.take_append_drop i M, List.mem_append] at hb
            rw [List.mem_append, List.mem_cons]
            exact hb.imp id .inr
        obtain ⟨w9, hrun9, hmap9, ho9⟩ := hst
        have hobj9 := ho9.heap hobj8 (by simpa using Ne.symm HPR.out.ne4)
        have y3 := ho9.cell x3 (by simpa using Ne.symm HPR.out.ne4)
        have y5 := ho9.cell x5 (by simpa using Ne.symm HPR.out.ne4)
        have y6 : w9.cell? ⟨p, 6, none⟩ = some (.int .i64 lv) := by rw [HLV.out]; exact obj_cell hobj9 rfl
        obtain ⟨pe, hpe⟩ : ∃ a, a = s.peak := ⟨_, rfl⟩
        have y8 : w9.cell? ⟨p, 8, none⟩ = some (.int .i64 pe) := by rw [hpe]; exact obj_cell hobj9 rfl
        have y7 : w9.cell? ⟨p, 7, none⟩ = some (.int .i64 hi) := by rw [HHI.out]; exact obj_cell hobj9 rfl
        have g6 := obj_free hobj9 6
        have g7 := obj_free hobj9 7
        have g8 := obj_free hobj9 8
        have hpeb : pe ≤ 16777216 := by rw [hpe]; have := HG.out.peak; have := HG.out.cap; omega
        have HPE := Lib.hid hpe
        have HOBJ9 := Lib.hid hobj9
        have HMAP9 := Lib.hid hmap9
        have HW8 := Lib.hid hW8
        have HR7 := Lib.hid hrow7
        have HOO7 := Lib.hid ho7
        have HOO78 := Lib.hid ho78
        have HOO9 := Lib.hid ho9
        have HG2 := Lib.hid hg2
        clear hobj7 hobj8 hobj9 hmap8 hmapW hmap9 hW8 hrow7 ho7 ho78 ho9 hg2 hpe HFI k1 k2 k3 k4
        go_wp2_with fail
        go_region_held3 (fun w' => w'.cell? ⟨p, 3, none⟩ = some (.map (some mb)) ∧ w'.cell? ⟨p, 5, none⟩ = some (.int .i64 ((nx : Int) + 1))) (first | exact ⟨x3, x5⟩ | exact ⟨y3, y5⟩) (fail)
        go_wp2_with fail
        obtain ⟨W10, hW10⟩ : ∃ W10, W10 = w9.setCell ⟨p, 6, none⟩ (.int .i64 ((lv : Int) + (words : Int))) := ⟨_, rfl⟩
        have hobj10 : W10.heap[p]? = some (.cells ((arCells { s with L := M, packed := pk, moves := mv, next := s.next + 1 } (.slice (some ⟨cg, 0, none⟩) H cc) (.slice (some ⟨g2, 0, none⟩) (M.length + 1) cap2) mb).setIfInBounds 6 (.int .i64 ((lv : Int) + (words : Int)))) 63 (0, 0)) := by rw [hW10]; exact obj_put HOBJ9.out 6 _
        rw [← hW10]
        have z8 : W10.cell? ⟨p, 8, none⟩ = some (.int .i64 pe) := by rw [HPE.out]; exact obj_cell hobj10 (by simp [arCells])
        have z6 : W10.cell? ⟨p, 6, none⟩ = some (.int .i64 ((lv : Int) + (words : Int))) := obj_cell hobj10 (by simp [arCells])
        have z7 : W10.cell? ⟨p, 7, none⟩ = some (.int .i64 hi) := by rw [HHI.out]; exact obj_cell hobj10 (by simp [arCells])
        have z5 : W10.cell? ⟨p, 5, none⟩ = some (.int .i64 ((nx : Int) + 1)) := by rw [HNX.out]; exact obj_cell hobj10 (by simp [arCells])
        have zf8 := obj_free hobj10 8
        have zf7 := obj_free hobj10 7
        have HOBJ10 := Lib.hid hobj10
        have HW10 := Lib.hid hW10
        clear hobj10 hW10
        obtain ⟨mx, hmx⟩ : ∃ mx : Nat, (mx : Int) = if (pe : Int) < (lv : Int) + (words : Int) then (lv : Int) + (words : Int) else (pe : Int) := ⟨max pe (lv + words), by rw [Nat.max_def]; split <;> split <;> omega⟩
        have HMX : Hid (mx = max s.peak (s.live + words)) := by
          show _ = _
          rw [← HPE.out, ← HLV.out, Nat.max_def]
          split at hmx <;> split <;> omega
        go_region
        rw [← hmx]
        obtain ⟨W11, hW11⟩ : ∃ W11, W11 = (W10.setCell ⟨p, 8, none⟩ (.int .i64 (mx : Int))).drew := ⟨_, rfl⟩
        have hobj11 : W11.heap[p]? = some (.cells (((arCells { s with L := M, packed := pk, moves := mv, next := s.next + 1 } (.slice (some ⟨cg, 0, none⟩) H cc) (.slice (some ⟨g2, 0, none⟩) (M.length + 1) cap2) mb).setIfInBounds 6 (.int .i64 ((lv : Int) + (words : Int)))).setIfInBounds 8 (.int .i64 (mx : Int))) 63 (0, 0)) := by rw [hW11]; exact obj_put HOBJ10.out 8 _
        rw [← hW11]
        have v7 : W11.cell? ⟨p, 7, none⟩ = some (.int .i64 hi) := by rw [HHI.out]; exact obj_cell hobj11 (by simp [arCells])
        have v5 : W11.cell? ⟨p, 5, none⟩ = some (.int .i64 ((nx : Int) + 1)) := by rw [HNX.out]; exact obj_cell hobj11 (by simp [arCells])
        have vf7 := obj_free hobj11 7
        have HOBJ11 := Lib.hid hobj11
        have HW11 := Lib.hid hW11
        obtain ⟨hx, hhx⟩ : ∃ hx : Nat, (hx : Int) = if (hi : Int) < (f : Int) + (words : Int) then (f : Int) + (words : Int) else (hi : Int) := ⟨max hi (f + words), by rw [Nat.max_def]; split <;> split <;> omega⟩
        have HHX : Hid (hx = max s.high (E M i + words)) := by
          show _ = _
          rw [← HHI.out, ← HF.out, Nat.max_def]
          split at hhx <;> split <;> omega
        have HFIN : Hid (∃ S' s', Given s words s' ∧ Ar p S' s' (W11.setCell ⟨p, 7, none⟩ (.int .i64 (hx : Int))) ∧ Fr S w S' ∧ Oth S w (W11.setCell ⟨p, 7, none⟩ (.int .i64 (hx : Int)))) := by
          have hpr := HPR.out
          have hb1 := HFIT.out
          have o1 : Oth [p] w9 (W11.setCell ⟨p, 7, none⟩ (.int .i64 (hx : Int))) := by
            rw [HW11.out, HW10.out]
            exact ((((Oth.refl [p] w9).setCell (.inl (by simp)) _).setCell (.inl (by simp)) _).drew).setCell (.inl (by simp)) _
          have hcs1 : cs1.length = H := by have := hpr.row.len; simpa using this
          have hzl : (List.replicate words (0 : Int)).length = words := by simp
          have hfH : f + words ≤ H := HHH.out.2
          have hcgb : cg ∉ bv.ownBlock.toList := fun e => by simp only [Option.mem_toList] at e; exact hpr.ne3 e
          have hcgl : cg < W6.heap.size := by have := hpr.row.lt; have := hoW.size; have := ho6.size; omega
          have hg2c : g2 ≠ cg := by
            rcases HG2.out with h | h
            · intro e; rw [e] at h; exact hpr.ne3 h
            · omega
          have hrowW : Row 59 1 cg H cc ((splice cs1 f (List.replicate words 0)).map (Value.int .i64)) W := by
            rw [splice_map, HW.out]
            have := row_splice (vs := (List.replicate words (0 : Int)).map (Value.int .i64)) (o := f) hpr.row (by simp; omega)
            simpa using this
          have hrowF := (((((hrowW.oth ho6 (by simpa using hpr.ne1)).oth HOO7.out hcgb).oth HOO78.out (by simpa using hpr.ne1)).oth HOO9.out (by simpa using hpr.ne2)).oth o1 (by simpa using hpr.ne1))
          have hblF := (((HR7.out.oth HOO78.out (by simpa using hg2p)).oth HOO9.out (by simpa using hg2m)).oth o1 (by simpa using hg2p))
          refine ⟨own4 p (.slice (some ⟨cg, 0, none⟩) H cc) (.slice (some ⟨g2, 0, none⟩) (M.length + 1) cap2) mb, placed s M i words pk mv, hb1.giv, ⟨_, _, _, splice cs1 f (List.replicate words 0), rfl, ?_, ?_, ?_, ?_, ?_, ?_⟩, ?_, ?_⟩
          · rw [obj_put HOBJ11.out]
            simp [arCells, placed, HMX.out, HHX.out, HLV.out]
          · have : (placed s M i words pk mv).high = H := by rw [HHH.out.1]; rfl
            rw [this]; exact hrowF.owns
          · have hl : (placed s M i words pk mv).L.length = M.length + 1 := by have := hb1.le; simp [placed]; omega
            rw [hl]
            have he : (placed s M i words pk mv).L = M.take i ++ ⟨s.next + 1, f, words, List.replicate words 0⟩ :: M.drop i := by rw [HF.out]; rfl
            rw [he]
            exact hblF.owns
          · have he : (placed s M i words pk mv).L = M.take i ++ ⟨s.next + 1, f, words, List.replicate words 0⟩ :: M.drop i := by rw [HF.out]; rfl
            rw [he]
            exact HMAP9.out.oth o1 (by simpa using hpr.ne4)
          · simp only [Value.ownBlock, Option.toList_some, List.nodup_cons, List.mem_cons, List.mem_append, List.mem_singleton, List.cons_append, List.nil_append, List.not_mem_nil, not_or, List.nodup_nil, and_true, not_false_eq_true]
            exact ⟨⟨Ne.symm hpr.ne4, Ne.symm hpr.ne1, Ne.symm hg2p⟩, ⟨Ne.symm hpr.ne2, Ne.symm hg2m⟩, Ne.symm hg2c⟩
          · intro b hb
            have he : (placed s M i words pk mv).L = M.take i ++ ⟨s.next + 1, f, words, List.replicate words 0⟩ :: M.drop i := by rw [HF.out]; rfl
            rw [he, List.mem_append, List.mem_cons] at hb
            rcases hb with hb | rfl | hb
            · rw [splice_apart (by omega) ?_]
              · exact hpr.data b (List.mem_of_mem_take hb)
              · left
                obtain ⟨j, hj⟩ := List.mem_iff_getElem?.1 hb
                rw [List.getElem?_take] at hj
                split at hj
                · rw [HF.out]; exact hb1.before j b (by assumption) hj
                · cases hj
            · simp only
              have := splice_here (xs := cs1) (o := f) (vs := List.replicate words (0 : Int)) (by omega)
              rw [hzl] at this
              exact this
            · rw [splice_apart (by omega) ?_]
              · exact hpr.data b (List.mem_of_mem_drop hb)
              · right
                obtain ⟨j, hj⟩ := List.mem_iff_getElem?.1 hb
                rw [List.getElem?_drop] at hj
                rw [hzl, HF.out]; exact hb1.after _ b (by omega) hj
          · intro k hk
            simp only [own4, Value.ownBlock, Option.toList_some, List.mem_cons, List.mem_append, List.cons_append, List.nil_append, List.not_mem_nil, or_false] at hk
            rcases hk with rfl | rfl | rfl | rfl
            · exact .inl hpr.inp
            · exact .inl hpr.inm
            · exact hpr.frc
            · rcases HG2.out with h | h
              · exact .inl (hpr.inb _ h)
              · right; have := hpr.oth.size; have := hoW.size; have := ho6.size; omega
          · have q1 : Oth S w W := hpr.oth.trans hoW (fun k hk => by simp at hk; subst hk; exact hpr.frc)
            have q2 : Oth S w W6 := q1.trans ho6 (fun k hk => by simp at hk; subst hk; exact .inl hpr.inp)
            have q3 : Oth S w w7 := q2.trans HOO7.out (fun k hk => .inl (hpr.inb k (by simpa using hk)))
            have q4 : Oth S w W8 := q3.trans HOO78.out (fun k hk => by simp at hk; subst hk; exact .inl hpr.inp)
            have q5 : Oth S w w9 := q4.trans HOO9.out (fun k hk => by simp at hk; subst hk; exact .inl hpr.inm)
            exact q5.trans o1 (fun k hk => by simp at hk; subst hk; exact .inl hpr.inp)
        clear hobj11 hW11 hmx
        have hxe : (f : Int) + (words : Int) = (hx : Int) := by rw [hhx]; split <;> omega
        clear hhx
        go_wp2_with fail
        go_ret2
        rw [hxe]
        exact ⟨by rw [HNX.out]; rfl, HFIN.out⟩
    · have t5 : ¬ (0 : Int) < (f : Int) + (words : Int) - (hi : Int) := by omega
      have t7 : IntKind.i64.wrap ((f : Int) + (words : Int)) = (f : Int) + (words : Int) := by rw [IntKind.wrap_i64]; omega
      have t8 : IntKind.i64.wrap ((f : Int) + (words : Int) - (hi : Int)) = (f : Int) + (words : Int) - (hi : Int) := by rw [IntKind.wrap_i64]; omega
      obtain ⟨cg, cc, hce, _, hrow2⟩ := row_of_owns hcells (by omega)
      injection hce with e1 e2 e3
      subst e1
      subst e3
      have hcb : cv.ownBlock = some cg := by rw [← hcvb]; rfl
      have HPRE : Hid (Pre p S s M pk mv bv mb cg ccap hi cs w w2) := by
        refine ⟨by rw [← HCV.out]; exact HOBJ.out, hrow2, HA.out.blocks, HA.out.map, (HNE.out.2.1 cg hcb).1, (HNE.out.2.1 cg hcb).2, HNE.out.2.2.2 cg hcb, HNE.out.1, HNE.out.2.2.1, HA.out.data, HO2.out, ?_, ?_, ?_, ?_⟩
        · left; rw [HSS.out]; simp [own4, hcb]
        · rw [HSS.out]; simp [own4]
        · rw [HSS.out]; simp [own4]
        · intro k hk; rw [HSS.out]; simp [own4, hk]
      have hcc := hrow2.cap_le
      obtain ⟨cc, hcce⟩ : ∃ cc, cc = ccap := ⟨_, rfl⟩
      obtain ⟨w4, hw4⟩ : ∃ w4, w4 = w2 := ⟨_, rfl⟩
      rw [← hcce] at hcc HPRE c1
      rw [← hw4] at HPRE c1 HOBJ HA HO2
      rw [← hw4]
      have b5 : f + words ≤ cc := by have := hcc.1; omega
      have b6 : cc ≤ 9223372036854775807 := by have := hcc.2; unfold maxLen at this; omega
      have b7 : (f : Int) + (words : Int) ≤ (cc : Int) := by omega
      have b8 : ¬ (cc = f) := by omega
      have b9 : f + words - f = words := by omega
      have b10 : (f : Int) ≤ (f : Int) + (words : Int) := by omega
      have b11 : (f : Int) ≤ (cc : Int) := by omega
      have hclr : ∀ c', (Builtin.clear_ #[23] 0 #[.slice (some ⟨cg, f, none⟩) words c']).run Try.prog w4 = .ok (.tuple #[]) (w4.setCells cg f (List.replicate words (.int .i64 0))) := fun c' =>
        run_clear_words w4 0 cg f words c' (by omega) (fun j hj => HPRE.out.row.there (by have := hcc.1; omega)) (fun j hj => HPRE.out.row.free _)
      obtain ⟨W, hW⟩ : ∃ W, W = w4.setCells cg f (List.replicate words (.int .i64 0)) := ⟨_, rfl⟩
      rw [← hW] at hclr
      have HW := Lib.hid hW
      obtain ⟨H, hH⟩ : ∃ H, H = hi := ⟨_, rfl⟩
      have HHH : Hid (H = max s.high (E M i + words) ∧ f + words ≤ H) := ⟨by rw [hH, ← HF.out, ← HHI.out, Nat.max_def]; split <;> omega, by omega⟩
      have CS1 : Hid (∃ cs1, Pre p S s M pk mv bv mb cg cc H cs1 w w4) := ⟨_, by rw [hH]; exact HPRE.out⟩
      clear hrow2 hcc hcells hcvb hW hH HPRE hcb hcce hw4
      obtain ⟨cs1, hpre⟩ := CS1.out
      have hoW : Oth [cg] w4 W := by rw [HW.out]; exact (Oth.refl _ _).setCells (.inl (by simp)) _ _
      have hobjW := hoW.heap hpre.obj (by simpa using Ne.symm hpre.ne1)
      obtain ⟨nx, hnx'⟩ : ∃ a, a = s.next := ⟨_, rfl⟩
      obtain ⟨bb, bcap, hbv⟩ : ∃ b c, bv = .slice b M.length c := by obtain ⟨b, c, h, _⟩ := owns_blocks hpre.bl; exact ⟨b, c, h⟩
      have d5 : W.cell? ⟨p, 5, none⟩ = some (.int .i64 nx) := by rw [hnx']; exact obj_cell hobjW rfl
      have f5 := obj_free hobjW 5
      have d2 : W.cell? ⟨p, 2, none⟩ = some (.slice bb M.length bcap) := by rw [← hbv]; exact obj_cell hobjW rfl
      have hpW := lt_of_block hobjW
      rw [← hnx'] at hnx
      have HNX := Lib.hid hnx'
      have HBV := Lib.hid hbv
      have HPR := Lib.hid hpre
      clear hpre hobjW hnx' hbv
      go_wp2_with (at_builtin; refine wpList_clear_run _ rfl _ 23 rfl _ rfl (hclr _) ?_)
      obtain ⟨W6, hW6⟩ : ∃ W6, W6 = W.setCell ⟨p, 5, none⟩ (.int .i64 ((nx : Int) + 1)) := ⟨_, rfl⟩
      have ho6 : Oth [p] W W6 := by rw [hW6]; exact (Oth.refl _ _).setCell (.inl (by simp)) _
      have hobj6 : W6.heap[p]? = some (.cells (arCells { s with L := M, packed := pk, moves := mv, next := s.next + 1 } (.slice (some ⟨cg, 0, none⟩) H cc) bv mb) 63 (0, 0)) := by
        have := obj_put (hoW.heap HPR.out.obj (by simpa using Ne.symm HPR.out.ne1)) 5 (.int .i64 ((nx : Int) + 1))
        rw [hW6, this, HNX.out]; simp [arCells]
      rw [← hW6]
      have e2 : W6.cell? ⟨p, 2, none⟩ = some (.slice bb M.length bcap) := by rw [← HBV.out]; exact obj_cell hobj6 rfl
      have e5 : W6.cell? ⟨p, 5, none⟩ = some (.int .i64 ((nx : Int) + 1)) := by rw [HNX.out]; exact obj_cell hobj6 rfl
      have hp6 := lt_of_block hobj6
      have hbl6 : W6.ownsRow 0 45 3 bv M.length (bcs M) := owns_oth (owns_oth HPR.out.bl hoW (fun k hk e => by simp at e; subst e; exact HPR.out.ne3 hk)) ho6 (fun k hk e => by simp at e; subst e; exact (HPR.out.ne5 _ hk).1 rfl)
      have HINS : Hid (Calls Try.prog 29 #[.slice bb M.length bcap, .int .i64 i, .slice (some ⟨W6.heap.size, 0, none⟩) 1 1] (W6.alloc (.cells #[.int .i64 ((nx : Int) + 1), .int .i64 f, .int .i64 words] 45)).drew fun e w' => ∃ g2 cap2, e = .returned (.slice (some ⟨g2, 0, none⟩) (M.length + 1) cap2) ∧ w'.cell? ⟨p, 5, none⟩ = some (.int .i64 ((nx : Int) + 1)) ∧ w'.cell? ⟨p, 2, none⟩ = some (.slice bb M.length bcap) ∧ w'.frozen? ⟨p, 2, none⟩ = false ∧ (w'.setCell ⟨p, 2, none⟩ (.slice (some ⟨g2, 0, none⟩) (M.length + 1) cap2)).cell? ⟨p, 5, none⟩ = some (.int .i64 ((nx : Int) + 1)) ∧ Hid (Row 45 3 g2 (M.length + 1) cap2 (bcs (M.take i ++ ⟨s.next + 1, f, words, List.replicate words 0⟩ :: M.drop i)) w' ∧ Oth bv.ownBlock.toList W6 w' ∧ (bv.ownBlock = some g2 ∨ W6.heap.size ≤ g2))) := by
        have ho7 : Oth [] W6 (W6.alloc (.cells #[.int .i64 ((nx : Int) + 1), .int .i64 f, .int .i64 words] 45)).drew := ((Oth.refl _ _).alloc _).drew
        have := insert_blk bv M i ⟨s.next + 1, f, words, List.replicate words 0⟩ W6.heap.size (W6.alloc (.cells #[.int .i64 ((nx : Int) + 1), .int .i64 f, .int .i64 words] 45)).drew (owns_oth hbl6 ho7 (by simp)) (by rw [HNX.out]; exact heap_alloc_new _ _) (fun e => by have := (hbl6.lt _ e).2; omega) (by rw [HFIT.out.len]; exact HG.out.cnt) HFIT.out.le
        rw [HBV.out] at this ⊢
        refine this.mono ?_
        rintro e w' ⟨g2, cap2, rfl, q1, q2, q3⟩
        rw [← HBV.out] at q2 q3
        have q4 : Oth bv.ownBlock.toList W6 w' := (ho7.mono (by simp)).trans q2 (Fr.refl _ _)
        have hobj7 := q4.heap hobj6 (fun e => by simp only [Option.mem_toList] at e; exact (HPR.out.ne5 _ e).1 rfl)
        refine ⟨g2, cap2, rfl, by rw [HNX.out]; exact obj_cell hobj7 rfl, by rw [← HBV.out]; exact obj_cell hobj7 rfl, obj_free hobj7 2, ?_, q1, by rw [← HBV.out]; exact q4, by rw [← HBV.out]; exact q3.imp id (fun h => by simp at h; omega)⟩
        exact obj_cell (obj_put hobj7 2 _) (by rw [HNX.out]; simp [arCells])
      have HOBJ6 := Lib.hid hobj6
      have HW6 := Lib.hid hW6
      clear hobj6 hW6 hbl6
      go_region_with ((go_at_call 29; refine HINS.out.mono ?_; rintro e w7 ⟨g2, cap2, rfl, k1, k2, k3, k4, HFI⟩))
      all_goals
        obtain ⟨W8, hW8⟩ : ∃ W8, W8 = w7.setCell ⟨p, 2, none⟩ (.slice (some ⟨g2, 0, none⟩) (M.length + 1) cap2) := ⟨_, rfl⟩
        obtain ⟨hrow7, ho7, hg2⟩ := HFI.out
        have hobj7 := ho7.heap HOBJ6.out (fun e => by simp only [Option.mem_toList] at e; exact (HPR.out.ne5 _ e).1 rfl)
        have hobj8 : W8.heap[p]? = some (.cells (arCells { s with L := M, packed := pk, moves := mv, next := s.next + 1 } (.slice (some ⟨cg, 0, none⟩) H cc) (.slice (some ⟨g2, 0, none⟩) (M.length + 1) cap2) mb) 63 (0, 0)) := by
          rw [hW8, obj_put hobj7]; simp [arCells]
        have ho78 : Oth [p] w7 W8 := by rw [hW8]; exact (Oth.refl _ _).setCell (.inl (by simp)) _
        rw [← hW8]
        have x3 : W8.cell? ⟨p, 3, none⟩ = some (.map (some mb)) := obj_cell hobj8 rfl
        have x5 : W8.cell? ⟨p, 5, none⟩ = some (.int .i64 ((nx : Int) + 1)) := by rw [HNX.out]; exact obj_cell hobj8 rfl
        have hg2p : g2 ≠ p := by
          rcases hg2 with h | h
          · exact (HPR.out.ne5 _ h).1
          · omega
        have hmapW : MapI mb M W := HPR.out.map.oth hoW (by simpa using Ne.symm HPR.out.ne2)
        have hmb6 : mb < W6.heap.size := by have := hmapW.lt; have := ho6.size; omega
        have hg2m : g2 ≠ mb := by
          rcases hg2 with h | h
          · exact (HPR.out.ne5 _ h).2
          · omega
        have hmap8 : MapI mb M W8 := ((hmapW.oth ho6 (by simpa using HPR.out.ne4)).oth ho7 (fun e => by simp only [Option.mem_toList] at e; exact (HPR.out.ne5 _ e).2 rfl)).oth ho78 (by simpa using HPR.out.ne4)
        have hst : ∃ w9, (Instr.mapUpdate 60 (.map (some mb)) (.int .i64 ((nx : Int) + 1)) (.int .i64 (f : Int))).run Try.prog W8.drew = .ok () w9 ∧ MapI mb (M.take i ++ ⟨s.next + 1, f, words, List.replicate words 0⟩ :: M.drop i) w9 ∧ Oth [mb] W8 w9 := by
          obtain ⟨D, hD, hMD⟩ := hmap8.oth (S := []) ((Oth.refl _ _).drew) (by simp)
          obtain ⟨w9, r1, r2, r3⟩ := hD.store law3 Try.underlying60 (by rw [HFIT.out.len]; have := HG.out.cnt; unfold maxLen; omega) (Maps.keyOf_int_mk Try.underlying3 (a := (nx : Int) + 1) (wf63 (by omega) (by omega))) (plainElem_int Try.underlying3 (a := (f : Int)) (wf63 (by omega) (by omega)))
          refine ⟨w9, r1, mapI_of r2 ?_, ((Oth.refl [mb] W8).drew).grown r3.grown (fun k hk => by cases hk; exact .inl (by simp))⟩
          have hnn : ((nx : Int) + 1) = ((s.next + 1 : Nat) : Int) := by have := HNX.out; omega
          rw [hnn]
          have hno : ∀ b, b ∈ M → b.h ≠ s.next + 1 := fun b hb => by have := (HFIT.out.blk b hb).2.2; omega
          refine hMD.put (s.next + 1) f ?_ (fun b hb => ?_) ⟨⟨s.next + 1, f, words, List.replicate words 0⟩, by simp, rfl⟩ (fun b hb _ => ⟨b, ?_, rfl⟩)
          · rw [if_neg (fun ⟨b, h1, h2⟩ => hno b h1 h2)]
            have := HFIT.out.le
            simp; omega
          · rw [List.mem_append, List.mem_cons] at hb
            rcases hb with hb | rfl | hb
            · exact .inr ⟨hno b (List.mem_of_mem_take hb), List.mem_of_mem_take hb⟩
            · exact .inl ⟨rfl, rfl⟩
            · exact .inr ⟨hno b (List.mem_of_mem_drop hb), List.mem_of_mem_drop hb⟩
          · rw [← List.take_append_drop i M, List.mem_append] at hb
            rw [List.mem_append, List.mem_cons]
            exact hb.imp id .inr
        obtain ⟨w9, hrun9, hmap9, ho9⟩ := hst
        have hobj9 := ho9.heap hobj8 (by simpa using Ne.symm HPR.out.ne4)
        have y3 := ho9.cell x3 (by simpa using Ne.symm HPR.out.ne4)
        have y5 := ho9.cell x5 (by simpa using Ne.symm HPR.out.ne4)
        have y6 : w9.cell? ⟨p, 6, none⟩ = some (.int .i64 lv) := by rw [HLV.out]; exact obj_cell hobj9 rfl
        obtain ⟨pe, hpe⟩ : ∃ a, a = s.peak := ⟨_, rfl⟩
        have y8 : w9.cell? ⟨p, 8, none⟩ = some (.int .i64 pe) := by rw [hpe]; exact obj_cell hobj9 rfl
        have y7 : w9.cell? ⟨p, 7, none⟩ = some (.int .i64 hi) := by rw [HHI.out]; exact obj_cell hobj9 rfl
        have g6 := obj_free hobj9 6
        have g7 := obj_free hobj9 7
        have g8 := obj_free hobj9 8
        have hpeb : pe ≤ 16777216 := by rw [hpe]; have := HG.out.peak; have := HG.out.cap; omega
        have HPE := Lib.hid hpe
        have HOBJ9 := Lib.hid hobj9
        have HMAP9 := Lib.hid hmap9
        have HW8 := Lib.hid hW8
        have HR7 := Lib.hid hrow7
        have HOO7 := Lib.hid ho7
        have HOO78 := Lib.hid ho78
        have HOO9 := Lib.hid ho9
        have HG2 := Lib.hid hg2
        clear hobj7 hobj8 hobj9 hmap8 hmapW hmap9 hW8 hrow7 ho7 ho78 ho9 hg2 hpe HFI k1 k2 k3 k4
        go_wp2_with fail
        go_region_held3 (fun w' => w'.cell? ⟨p, 3, none⟩ = some (.map (some mb)) ∧ w'.cell? ⟨p, 5, none⟩ = some (.int .i64 ((nx : Int) + 1))) (first | exact ⟨x3, x5⟩ | exact ⟨y3, y5⟩) (fail)
        go_wp2_with fail
        obtain ⟨W10, hW10⟩ : ∃ W10, W10 = w9.setCell ⟨p, 6, none⟩ (.int .i64 ((lv : Int) + (words : Int))) := ⟨_, rfl⟩
        have hobj10 : W10.heap[p]? = some (.cells ((arCells { s with L := M, packed := pk, moves := mv, next := s.next + 1 } (.slice (some ⟨cg, 0, none⟩) H cc) (.slice (some ⟨g2, 0, none⟩) (M.length + 1) cap2) mb).setIfInBounds 6 (.int .i64 ((lv : Int) + (words : Int)))) 63 (0, 0)) := by rw [hW10]; exact obj_put HOBJ9.out 6 _
        rw [← hW10]
        have z8 : W10.cell? ⟨p, 8, none⟩ = some (.int .i64 pe) := by rw [HPE.out]; exact obj_cell hobj10 (by simp [arCells])
        have z6 : W10.cell? ⟨p, 6, none⟩ = some (.int .i64 ((lv : Int) + (words : Int))) := obj_cell hobj10 (by simp [arCells])
        have z7 : W10.cell? ⟨p, 7, none⟩ = some (.int .i64 hi) := by rw [HHI.out]; exact obj_cell hobj10 (by simp [arCells])
        have z5 : W10.cell? ⟨p, 5, none⟩ = some (.int .i64 ((nx : Int) + 1)) := by rw [HNX.out]; exact obj_cell hobj10 (by simp [arCells])
        have zf8 := obj_free hobj10 8
        have zf7 := obj_free hobj10 7
        have HOBJ10 := Lib.hid hobj10
        have HW10 := Lib.hid hW10
        clear hobj10 hW10
        obtain ⟨mx, hmx⟩ : ∃ mx : Nat, (mx : Int) = if (pe : Int) < (lv : Int) + (words : Int) then (lv : Int) + (words : Int) else (pe : Int) := ⟨max pe (lv + words), by rw [Nat.max_def]; split <;> split <;> omega⟩
        have HMX : Hid (mx = max s.peak (s.live + words)) := by
          show _ = _
          rw [← HPE.out, ← HLV.out, Nat.max_def]
          split at hmx <;> split <;> omega
        go_region
        rw [← hmx]
        obtain ⟨W11, hW11⟩ : ∃ W11, W11 = (W10.setCell ⟨p, 8, none⟩ (.int .i64 (mx : Int))).drew := ⟨_, rfl⟩
        have hobj11 : W11.heap[p]? = some (.cells (((arCells { s with L := M, packed := pk, moves := mv, next := s.next + 1 } (.slice (some ⟨cg, 0, none⟩) H cc) (.slice (some ⟨g2, 0, none⟩) (M.length + 1) cap2) mb).setIfInBounds 6 (.int .i64 ((lv : Int) + (words : Int)))).setIfInBounds 8 (.int .i64 (mx : Int))) 63 (0, 0)) := by rw [hW11]; exact obj_put HOBJ10.out 8 _
        rw [← hW11]
        have v7 : W11.cell? ⟨p, 7, none⟩ = some (.int .i64 hi) := by rw [HHI.out]; exact obj_cell hobj11 (by simp [arCells])
        have v5 : W11.cell? ⟨p, 5, none⟩ = some (.int .i64 ((nx : Int) + 1)) := by rw [HNX.out]; exact obj_cell hobj11 (by simp [arCells])
        have vf7 := obj_free hobj11 7
        have HOBJ11 := Lib.hid hobj11
        have HW11 := Lib.hid hW11
        obtain ⟨hx, hhx⟩ : ∃ hx : Nat, (hx : Int) = if (hi : Int) < (f : Int) + (words : Int) then (f : Int) + (words : Int) else (hi : Int) := ⟨max hi (f + words), by rw [Nat.max_def]; split <;> split <;> omega⟩
        have HHX : Hid (hx = max s.high (E M i + words)) := by
          show _ = _
          rw [← HHI.out, ← HF.out, Nat.max_def]
          split at hhx <;> split <;> omega
        have HFIN : Hid (∃ S' s', Given s words s' ∧ Ar p S' s' (W11.setCell ⟨p, 7, none⟩ (.int .i64 (hx : Int))) ∧ Fr S w S' ∧ Oth S w (W11.setCell ⟨p, 7, none⟩ (.int .i64 (hx : Int)))) := by
          have hpr := HPR.out
          have hb1 := HFIT.out
          have o1 : Oth [p] w9 (W11.setCell ⟨p, 7, none⟩ (.int .i64 (hx : Int))) := by
            rw [HW11.out, HW10.out]
            exact ((((Oth.refl [p] w9).setCell (.inl (by simp)) _).setCell (.inl (by simp)) _).drew).setCell (.inl (by simp)) _
          have hcs1 : cs1.length = H := by have := hpr.row.len; simpa using this
          have hzl : (List.replicate words (0 : Int)).length = words := by simp
          have hfH : f + words ≤ H := HHH.out.2
          have hcgb : cg ∉ bv.ownBlock.toList := fun e => by simp only [Option.mem_toList] at e; exact hpr.ne3 e
          have hcgl : cg < W6.heap.size := by have := hpr.row.lt; have := hoW.size; have := ho6.size; omega
          have hg2c : g2 ≠ cg := by
            rcases HG2.out with h | h
            · intro e; rw [e] at h; exact hpr.ne3 h
            · omega
          have hrowW : Row 59 1 cg H cc ((splice cs1 f (List.replicate words 0)).map (Value.int .i64)) W := by
            rw [splice_map, HW.out]
            have := row_splice (vs := (List.replicate words (0 : Int)).map (Value.int .i64)) (o := f) hpr.row (by simp; omega)
            simpa using this
          have hrowF := (((((hrowW.oth ho6 (by simpa using hpr.ne1)).oth HOO7.out hcgb).oth HOO78.out (by simpa using hpr.ne1)).oth HOO9.out (by simpa using hpr.ne2)).oth o1 (by simpa using hpr.ne1))
          have hblF := (((HR7.out.oth HOO78.out (by simpa using hg2p)).oth HOO9.out (by simpa using hg2m)).oth o1 (by simpa using hg2p))
          refine ⟨own4 p (.slice (some ⟨cg, 0, none⟩) H cc) (.slice (some ⟨g2, 0, none⟩) (M.length + 1) cap2) mb, placed s M i words pk mv, hb1.giv, ⟨_, _, _, splice cs1 f (List.replicate words 0), rfl, ?_, ?_, ?_, ?_, ?_, ?_⟩, ?_, ?_⟩
          · rw [obj_put HOBJ11.out]
            simp [arCells, placed, HMX.out, HHX.out, HLV.out]
          · have : (placed s M i words pk mv).high = H := by rw [HHH.out.1]; rfl
            rw [this]; exact hrowF.owns
          · have hl : (placed s M i words pk mv).L.length = M.length + 1 := by have := hb1.le; simp [placed]; omega
            rw [hl]
            have he : (placed s M i words pk mv).L = M.take i ++ ⟨s.next + 1, f, words, List.replicate words 0⟩ :: M.drop i := by rw [HF.out]; rfl
            rw [he]
            exact hblF.owns
          · have he : (placed s M i words pk mv).L = M.take i ++ ⟨s.next + 1, f, words, List.replicate words 0⟩ :: M.drop i := by rw [HF.out]; rfl
            rw [he]
            exact HMAP9.out.oth o1 (by simpa using hpr.ne4)
          · simp only [Value.ownBlock, Option.toList_some, List.nodup_cons, List.mem_cons, List.mem_append, List.mem_singleton, List.cons_append, List.nil_append, List.not_mem_nil, not_or, List.nodup_nil, and_true, not_false_eq_true]
            exact ⟨⟨Ne.symm hpr.ne4, Ne.symm hpr.ne1, Ne.symm hg2p⟩, ⟨Ne.symm hpr.ne2, Ne.symm hg2m⟩, Ne.symm hg2c⟩
          · intro b hb
            have he : (placed s M i words pk mv).L = M.take i ++ ⟨s.next + 1, f, words, List.replicate words 0⟩ :: M.drop i := by rw [HF.out]; rfl
            rw [he, List.mem_append, List.mem_cons] at hb
            rcases hb with hb | rfl | hb
            · rw [splice_apart (by omega) ?_]
              · exact hpr.data b (List.mem_of_mem_take hb)
              · left
                obtain ⟨j, hj⟩ := List.mem_iff_getElem?.1 hb
                rw [List.getElem?_take] at hj
                split at hj
                · rw [HF.out]; exact hb1.before j b (by assumption) hj
                · cases hj
            · simp only
              have := splice_here (xs := cs1) (o := f) (vs := List.replicate words (0 : Int)) (by omega)
              rw [hzl] at this
              exact this
            · rw [splice_apart (by omega) ?_]
              · exact hpr.data b (List.mem_of_mem_drop hb)
              · right
                obtain ⟨j, hj⟩ := List.mem_iff_getElem?.1 hb
                rw [List.getElem?_drop] at hj
                rw [hzl, HF.out]; exact hb1.after _ b (by omega) hj
          · intro k hk
            simp only [own4, Value.ownBlock, Option.toList_some, List.mem_cons, List.mem_append, List.cons_append, List.nil_append, List.not_mem_nil, or_false] at hk
            rcases hk with rfl | rfl | rfl | rfl
            · exact .inl hpr.inp
            · exact .inl hpr.inm
            · exact hpr.frc
            · rcases HG2.out with h | h
              · exact .inl (hpr.inb _ h)
              · right; have := hpr.oth.size; have := hoW.size; have := ho6.size; omega
          · have q1 : Oth S w W := hpr.oth.trans hoW (fun k hk => by simp at hk; subst hk; exact hpr.frc)
            have q2 : Oth S w W6 := q1.trans ho6 (fun k hk => by simp at hk; subst hk; exact .inl hpr.inp)
            have q3 : Oth S w w7 := q2.trans HOO7.out (fun k hk => .inl (hpr.inb k (by simpa using hk)))
            have q4 : Oth S w W8 := q3.trans HOO78.out (fun k hk => by simp at hk; subst hk; exact .inl hpr.inp)
            have q5 : Oth S w w9 := q4.trans HOO9.out (fun k hk => by simp at hk; subst hk; exact .inl hpr.inm)
            exact q5.trans o1 (fun k hk => by simp at hk; subst hk; exact .inl hpr.inp)
        clear hobj11 hW11 hmx
        have hxe : (hi : Int) = (hx : Int) := by rw [hhx]; split <;> omega
        clear hhx
        go_wp2_with fail
        go_ret2
        rw [hxe]
        exact ⟨by rw [HNX.out]; rfl, HFIN.out⟩
  | false =>
    have hil : i = s.L.length := by
      rcases Nat.lt_or_ge i s.L.length with h | h
      · have := (hgap.here _ (List.getElem?_eq_getElem h)).1; cases this
      · have := hgap.le3; omega
    have HIL := Lib.hid hil
    have HGAP := Lib.hid hgap
    have HCOMP : Hid (Calls Try.prog 27 #[.pointer (some ⟨p, 0, none⟩)] w1 fun e w' => e = .returned (.tuple #[]) ∧ Ar p S { s with L := comp 0 s.L, packed := s.L.length, moves := s.moves + 1 } w' ∧ Oth S w1 w') := compact_any p S { s with packed := k } w1 ha1 (HG.out.pack hgap)
    have HO0 := Lib.hid ho1w
    clear hgap ha1 ho1 ho1w HH hoV hil
    go_wp2_with fail
    refine HCOMP.out.mono ?_
    rintro e w1' ⟨rfl, ha1', ho1'⟩
    have ho1w' := HO0.out.trans ho1' (Fr.refl _ _)
    have hc2 : ∃ bb bcap, w1'.cell? ⟨p, 2, none⟩ = some (.slice bb i bcap) := by
      obtain ⟨cv, bv, mb, cs, hS, ha⟩ := ha1'
      obtain ⟨b, c, h, _⟩ := owns_blocks ha.blocks
      refine ⟨b, c, ?_⟩
      have : i = (comp 0 s.L).length := by rw [comp_length]; exact HIL.out
      rw [this, ← h]; exact ha.cell rfl
    obtain ⟨bb0, bcap0, c22⟩ := hc2
    have HS1 : Hid (∃ M pk mv, Ar p S { s with L := M, packed := pk, moves := mv } w1' ∧ Fit s words M i pk mv) := ⟨_, _, _, ha1', by rw [HIL.out]; exact fit_comp HG.out (by have := HGAP.out; rw [HIL.out] at this; exact this) H3.out⟩
    have HO1 := Lib.hid ho1w'
    clear ha1' ho1' ho1w' H3 HCOMP HO0 HGAP HIL
    obtain ⟨M, pk, mv, har, hfit⟩ := HS1.out
    have HEND : Hid (Calls Try.prog 28 #[.pointer (some ⟨p, 0, none⟩), .int .i64 ((i : Int) - 1)] w1' fun e w' => e = .returned (.int .i64 (E M i)) ∧ ∃ k, w' = w1'.drewN k) :=
      end_any (s := { s with L := M, packed := pk, moves := mv }) i har ⟨HG.out.cap, by simp only; rw [hfit.len]; exact HG.out.cnt, fun b hb => by have := hfit.blk b hb; have := HG.out.high; have := HG.out.cap; have := HG.out.next; omega, hfit.pk⟩ hfit.le
    go_wp2_with fail
    refine HEND.out.mono ?_
    rintro e w2 ⟨rfl, k2, hk2⟩
    have ho2 : Oth [] w1' w2 := by rw [hk2]; exact (Oth.refl _ _).drewN _
    obtain ⟨cv, bv, mb, cs, hS, ha⟩ := har.oth ho2 (by simp)
    have HO2 := Lib.hid (HO1.out.trans (ho2.mono (S' := S) (by simp)) (Fr.refl _ _))
    obtain ⟨f, hf⟩ : ∃ a, a = E M i := ⟨_, rfl⟩
    obtain ⟨hi, hhi⟩ : ∃ a, a = s.high := ⟨_, rfl⟩
    rw [← hf]
    have b1 : f + words ≤ cp := by rw [hf, HCP.out]; exact hfit.fit
    have b2 : hi ≤ 16777216 := by rw [hhi]; have := HG.out.high; have := HG.out.cap; omega
    obtain ⟨cbo, ccap, hcv⟩ : ∃ b c, cv = .slice b hi c := by
      rw [hhi]
      rcases ha.cells.2 with ⟨h5, h6⟩ | ⟨g, c, _, h5, _⟩
      · exact ⟨none, 0, by rw [h5]; simp only at h6; rw [h6]⟩
      · exact ⟨_, c, h5⟩
    have c1 : w2.cell? ⟨p, 1, none⟩ = some (.slice cbo hi ccap) := by rw [← hcv]; exact ha.cell rfl
    have hne := ha.ne
    have hcvb : (Value.slice cbo hi ccap).ownBlock = cv.ownBlock := by rw [hcv]
    have HOBJ := Lib.hid ha.obj
    have HCV := Lib.hid hcv
    have hcells := ha.cells
    rw [hcv, ← hhi] at hcells
    have HA := Lib.hid ha
    have HF := Lib.hid hf
    have HHI := Lib.hid hhi
    have HFIT := Lib.hid hfit
    have HSS := Lib.hid hS
    have HNE := Lib.hid hne
    clear ha har hfit hk2 hf hhi hcv hS ho2 HEND hne
    -- what is known when the words are long enough
    by_cases hgrow : hi < f + words
    · have t5 : (0 : Int) < (f : Int) + (words : Int) - (hi : Int) := by omega
      obtain ⟨m, hm⟩ : ∃ m, m = f + words - hi := ⟨_, rfl⟩
      have t6 : (f : Int) + (words : Int) - (hi : Int) = (m : Int) := by omega
      have t7 : IntKind.i64.wrap ((f : Int) + (words : Int)) = (f : Int) + (words : Int) := by rw [IntKind.wrap_i64]; omega
      have t8 : IntKind.i64.wrap ((f : Int) + (words : Int) - (hi : Int)) = (m : Int) := by rw [IntKind.wrap_i64]; omega
      obtain ⟨cg, cc, w3, hrz, hrow3, ho3, hwh3⟩ := run_zeros w2 23 (.slice cbo hi ccap) hi m cs hcells (by omega) (by omega)
      have hmm : hi + m = f + words := by omega
      rw [hmm] at hrz hrow3
      have hobj3 : w3.heap[p]? = some (.cells (arCells { s with L := M, packed := pk, moves := mv } cv bv mb) 63 (0, 0)) := ho3.heap HOBJ.out (by rw [hcvb]; intro hk; simp only [Option.mem_toList] at hk; exact (HNE.out.2.1 p hk).1 rfl)
      have d1 : w3.cell? ⟨p, 1, none⟩ = some (.slice cbo hi ccap) := obj_cell hobj3 (by rw [← HCV.out]; rfl)
      have d1f := obj_free hobj3 1
      have hcgp : cg ≠ p := by
        rcases hwh3 with h | h
        · rw [hcvb] at h; exact (HNE.out.2.1 cg h).1
        · have := lt_of_block HOBJ.out; omega
      have hcgm : cg ≠ mb := by
        rcases hwh3 with h | h
        · rw [hcvb] at h; exact (HNE.out.2.1 cg h).2
        · have := HA.out.map.lt; omega
      have hcgb : bv.ownBlock ≠ some cg := by
        rcases hwh3 with h | h
        · rw [hcvb] at h; exact HNE.out.2.2.2 cg h
        · intro e; have := (HA.out.blocks.lt cg e).2; omega
      have hnin : ∀ k, k ∈ (Value.slice cbo hi ccap).ownBlock.toList → cv.ownBlock = some k := fun k hk => by rw [hcvb] at hk; simpa using hk
      obtain ⟨w4, hw4⟩ : ∃ w4, w4 = w3.setCell ⟨p, 1, none⟩ (.slice (some ⟨cg, 0, none⟩) (f + words) cc) := ⟨_, rfl⟩
      have HPRE : Hid (Pre p S s M pk mv bv mb cg cc (f + words) (cs ++ List.replicate m 0) w w4) := by
        have hcsl : cs.length = hi := by have := hcells.1; simpa using this
        refine ⟨?_, ?_, ?_, ?_, hcgp, hcgm, hcgb, HNE.out.1, HNE.out.2.2.1, fun b hb => ?_, ?_, ?_, ?_, ?_, ?_⟩
        · rw [hw4, obj_put hobj3]; simp [arCells]
        · rw [hw4]; exact hrow3.other hcgp _
        · rw [hw4]; exact owns_other (owns_oth HA.out.blocks ho3 (fun k hk e => HNE.out.2.2.2 k (hnin k e) hk)) (fun k hk => (HNE.out.2.2.1 k hk).1) _
        · rw [hw4]; exact (HA.out.map.oth ho3 (fun e => (HNE.out.2.1 mb (hnin mb e)).2 rfl)).other HNE.out.1 _
        · have h5 := HFIT.out.blk b hb
          rw [← HA.out.data b hb]
          have h6 : b.f + b.n ≤ cs.length := by rw [hcsl, HHI.out]; exact h5.2.1
          rw [List.drop_append_of_le_length (by omega), List.take_append_of_le_length (by simp; omega)]
        · rw [hw4]
          refine (HO2.out.trans (ho3.mono (S' := S) (fun k hk => ?_)) (Fr.refl _ _)).setCell (.inl ?_) _
          · rw [HSS.out]; simp [own4, hnin k hk]
          · rw [HSS.out]; simp [own4]
        · rcases hwh3 with h | h
          · rw [hcvb] at h; left; rw [HSS.out]; simp [own4, h]
          · right; have := HO2.out.size; omega
        · rw [HSS.out]; simp [own4]
        · rw [HSS.out]; simp [own4]
        · intro k hk; rw [HSS.out]; simp [own4, hk]
      have hcc := hrow3.cap_le
      have b5 : f + words ≤ cc := hcc.1
      have b6 : cc ≤ 9223372036854775807 := by have := hcc.2; unfold maxLen at this; omega
      have b7 : (f : Int) + (words : Int) ≤ (cc : Int) := by omega
      have b8 : ¬ (cc = f) := by omega
      have b9 : f + words - f = words := by omega
      have b10 : (f : Int) ≤ (f : Int) + (words : Int) := by omega
      have b11 : (f : Int) ≤ (cc : Int) := by omega
      have HW4 := Lib.hid hw4
      have d4 : w4.cell? ⟨p, 1, none⟩ = some (.slice (some ⟨cg, 0, none⟩) (f + words) cc) := obj_cell HPRE.out.obj rfl
      have t9 : (0 : Int) < (m : Int) := by omega
      have hclr : ∀ c', (Builtin.clear_ #[23] 0 #[.slice (some ⟨cg, f, none⟩) words c']).run Try.prog (w3.setCell ⟨p, 1, none⟩ (.slice (some ⟨cg, 0, none⟩) (f + words) cc)) = .ok (.tuple #[]) (w4.setCells cg f (List.replicate words (.int .i64 0))) := fun c' => by
        rw [← hw4]
        exact run_clear_words w4 0 cg f words c' (by omega) (fun j hj => HPRE.out.row.there (by omega)) (fun j hj => HPRE.out.row.free _)
      obtain ⟨W, hW⟩ : ∃ W, W = w4.setCells cg f (List.replicate words (.int .i64 0)) := ⟨_, rfl⟩
      rw [← hW] at hclr
      have HW := Lib.hid hW
      obtain ⟨H, hH⟩ : ∃ H, H = f + words := ⟨_, rfl⟩
      rw [← hH] at HPRE
      have HHH : Hid (H = max s.high (E M i + words) ∧ f + words ≤ H) := ⟨by rw [hH, HF.out, ← HHI.out, Nat.max_def]; rw [HF.out] at hgrow; split <;> omega, by omega⟩
      have CS1 : Hid (∃ cs1, Pre p S s M pk mv bv mb cg cc H cs1 w w4) := ⟨_, HPRE.out⟩
      clear hm hrow3 hobj3 ho3 hwh3 hcc hnin hcells hcvb hw4 t5 hmm hW hH HPRE
      obtain ⟨cs1, hpre⟩ := CS1.out
      have hoW : Oth [cg] w4 W := by rw [HW.out]; exact (Oth.refl _ _).setCells (.inl (by simp)) _ _
      have hobjW := hoW.heap hpre.obj (by simpa using Ne.symm hpre.ne1)
      obtain ⟨nx, hnx'⟩ : ∃ a, a = s.next := ⟨_, rfl⟩
      obtain ⟨bb, bcap, hbv⟩ : ∃ b c, bv = .slice b M.length c := by obtain ⟨b, c, h, _⟩ := owns_blocks hpre.bl; exact ⟨b, c, h⟩
      have d5 : W.cell? ⟨p, 5, none⟩ = some (.int .i64 nx) := by rw [hnx']; exact obj_cell hobjW rfl
      have f5 := obj_free hobjW 5
      have d2 : W.cell? ⟨p, 2, none⟩ = some (.slice bb M.length bcap) := by rw [← hbv]; exact obj_cell hobjW rfl
      have hpW := lt_of_block hobjW
      rw [← hnx'] at hnx
      have HNX := Lib.hid hnx'
      have HBV := Lib.hid hbv
      have HPR := Lib.hid hpre
      clear hpre hobjW hnx' hbv
      go_wp2_with (first
        | (at_builtin; refine Lib.wpList_append_run _ rfl _ _ _ _ rfl _ _ rfl rfl _ _ hrz ?_)
        | (at_builtin; refine wpList_clear_run _ rfl _ 23 rfl _ rfl (hclr _) ?_))
      obtain ⟨W6, hW6⟩ : ∃ W6, W6 = W.setCell ⟨p, 5, none⟩ (.int .i64 ((nx : Int) + 1)) := ⟨_, rfl⟩
      have ho6 : Oth [p] W W6 := by rw [hW6]; exact (Oth.refl _ _).setCell (.inl (by simp)) _
      have hobj6 : W6.heap[p]? = some (.cells (arCells { s with L := M, packed := pk, moves := mv, next := s.next + 1 } (.slice (some ⟨cg, 0, none⟩) H cc) bv mb) 63 (0, 0)) := by
        have := obj_put (hoW.heap HPR.out.obj (by simpa using Ne.symm HPR.out.ne1)) 5 (.int .i64 ((nx : Int) + 1))
        rw [hW6, this, HNX.out]; simp [arCells]
      rw [← hW6]
      have e2 : W6.cell? ⟨p, 2, none⟩ = some (.slice bb M.length bcap) := by rw [← HBV.out]; exact obj_cell hobj6 rfl
      have e5 : W6.cell? ⟨p, 5, none⟩ = some (.int .i64 ((nx : Int) + 1)) := by rw [HNX.out]; exact obj_cell hobj6 rfl
      have hp6 := lt_of_block hobj6
      have hbl6 : W6.ownsRow 0 45 3 bv M.length (bcs M) := owns_oth (owns_oth HPR.out.bl hoW (fun k hk e => by simp at e; subst e; exact HPR.out.ne3 hk)) ho6 (fun k hk e => by simp at e; subst e; exact (HPR.out.ne5 _ hk).1 rfl)
      have HINS : Hid (Calls Try.prog 29 #[.slice bb M.length bcap, .int .i64 i, .slice (some ⟨W6.heap.size, 0, none⟩) 1 1] (W6.alloc (.cells #[.int .i64 ((nx : Int) + 1), .int .i64 f, .int .i64 words] 45)).drew fun e w' => ∃ g2 cap2, e = .returned (.slice (some ⟨g2, 0, none⟩) (M.length + 1) cap2) ∧ w'.cell? ⟨p, 5, none⟩ = some (.int .i64 ((nx : Int) + 1)) ∧ w'.cell? ⟨p, 2, none⟩ = some (.slice bb M.length bcap) ∧ w'.frozen? ⟨p, 2, none⟩ = false ∧ (w'.setCell ⟨p, 2, none⟩ (.slice (some ⟨g2, 0, none⟩) (M.length + 1) cap2)).cell? ⟨p, 5, none⟩ = some (.int .i64 ((nx : Int) + 1)) ∧ Hid (Row 45 3 g2 (M.length + 1) cap2 (bcs (M.take i ++ ⟨s.next + 1, f, words, List.replicate words 0⟩ :: M.drop i)) w' ∧ Oth bv.ownBlock.toList W6 w' ∧ (bv.ownBlock = some g2 ∨ W6.heap.size ≤ g2))) := by
        have ho7 : Oth [] W6 (W6.alloc (.cells #[.int .i64 ((nx : Int) + 1), .int .i64 f, .int .i64 words] 45)).drew := ((Oth.refl _ _).alloc _).drew
        have := insert_blk bv M i ⟨s.next + 1, f, words, List.replicate words 0⟩ W6.heap.size (W6.alloc (.cells #[.int .i64 ((nx : Int) + 1), .int .i64 f, .int .i64 words] 45)).drew (owns_oth hbl6 ho7 (by simp)) (by rw [HNX.out]; exact heap_alloc_new _ _) (fun e => by have := (hbl6.lt _ e).2; omega) (by rw [HFIT.out.len]; exact HG.out.cnt) HFIT.out.le
        rw [HBV.out] at this ⊢
        refine this.mono ?_
        rintro e w' ⟨g2, cap2, rfl, q1, q2, q3⟩
        rw [← HBV.out] at q2 q3
        have q4 : Oth bv.ownBlock.toList W6 w' := (ho7.mono (by simp)).trans q2 (Fr.refl _ _)
        have hobj7 := q4.heap hobj6 (fun e => by simp only [Option.mem_toList] at e; exact (HPR.out.ne5 _ e).1 rfl)
        refine ⟨g2, cap2, rfl, by rw [HNX.out]; exact obj_cell hobj7 rfl, by rw [← HBV.out]; exact obj_cell hobj7 rfl, obj_free hobj7 2, ?_, q1, by rw [← HBV.out]; exact q4, by rw [← HBV.out]; exact q3.imp id (fun h => by simp at h; omega)⟩
        exact obj_cell (obj_put hobj7 2 _) (by rw [HNX.out]; simp [arCells])
      have HOBJ6 := Lib.hid hobj6
      have HW6 := Lib.hid hW6
      clear hobj6 hW6 hbl6
      go_region_with ((go_at_call 29; refine HINS.out.mono ?_; rintro e w7 ⟨g2, cap2, rfl, k1, k2, k3, k4, HFI⟩))
      all_goals
        obtain ⟨W8, hW8⟩ : ∃ W8, W8 = w7.setCell ⟨p, 2, none⟩ (.slice (some ⟨g2, 0, none⟩) (M.length + 1) cap2) := ⟨_, rfl⟩
        obtain ⟨hrow7, ho7, hg2⟩ := HFI.out
        have hobj7 := ho7.heap HOBJ6.out (fun e => by simp only [Option.mem_toList] at e; exact (HPR.out.ne5 _ e).1 rfl)
        have hobj8 : W8.heap[p]? = some (.cells (arCells { s with L := M, packed := pk, moves := mv, next := s.next + 1 } (.slice (some ⟨cg, 0, none⟩) H cc) (.slice (some ⟨g2, 0, none⟩) (M.length + 1) cap2) mb) 63 (0, 0)) := by
          rw [hW8, obj_put hobj7]; simp [arCells]
        have ho78 : Oth [p] w7 W8 := by rw [hW8]; exact (Oth.refl _ _).setCell (.inl (by simp)) _
        rw [← hW8]
        have x3 : W8.cell? ⟨p, 3, none⟩ = some (.map (some mb)) := obj_cell hobj8 rfl
        have x5 : W8.cell? ⟨p, 5, none⟩ = some (.int .i64 ((nx : Int) + 1)) := by rw [HNX.out]; exact obj_cell hobj8 rfl
        have hg2p : g2 ≠ p := by
          rcases hg2 with h | h
          · exact (HPR.out.ne5 _ h).1
          · omega
        have hmapW : MapI mb M W := HPR.out.map.oth hoW (by simpa using Ne.symm HPR.out.ne2)
        have hmb6 : mb < W6.heap.size := by have := hmapW.lt; have := ho6.size; omega
        have hg2m : g2 ≠ mb := by
          rcases hg2 with h | h
          · exact (HPR.out.ne5 _ h).2
          · omega
        have hmap8 : MapI mb M W8 := ((hmapW.oth ho6 (by simpa using HPR.out.ne4)).oth ho7 (fun e => by simp only [Option.mem_toList] at e; exact (HPR.out.ne5 _ e).2 rfl)).oth ho78 (by simpa using HPR.out.ne4)
        have hst : ∃ w9, (Instr.mapUpdate 60 (.map (some mb)) (.int .i64 ((nx : Int) + 1)) (.int .i64 (f : Int))).run Try.prog W8.drew = .ok () w9 ∧ MapI mb (M.take i ++ ⟨s.next + 1, f, words, List.replicate words 0⟩ :: M.drop i) w9 ∧ Oth [mb] W8 w9 := by
          obtain ⟨D, hD, hMD⟩ := hmap8.oth (S := []) ((Oth.refl _ _).drew) (by simp)
          obtain ⟨w9, r1, r2, r3⟩ := hD.store law3 Try.underlying60 (by rw [HFIT.out.len]; have := HG.out.cnt; unfold maxLen; omega) (Maps.keyOf_int_mk Try.underlying3 (a := (nx : Int) + 1) (wf63 (by omega) (by omega))) (plainElem_int Try.underlying3 (a := (f : Int)) (wf63 (by omega) (by omega)))
          refine ⟨w9, r1, mapI_of r2 ?_, ((Oth.refl [mb] W8).drew).grown r3.grown (fun k hk => by cases hk; exact .inl (by simp))⟩
          have hnn : ((nx : Int) + 1) = ((s.next + 1 : Nat) : Int) := by have := HNX.out; omega
          rw [hnn]
          have hno : ∀ b, b ∈ M → b.h ≠ s.next + 1 := fun b hb => by have := (HFIT.out.blk b hb).2.2; omega
          refine hMD.put (s.next + 1) f ?_ (fun b hb => ?_) ⟨⟨s.next + 1, f, words, List.replicate words 0⟩, by simp, rfl⟩ (fun b hb _ => ⟨b, ?_, rfl⟩)
          · rw [if_neg (fun ⟨b, h1, h2⟩ => hno b h1 h2)]
            have := HFIT.out.le
            simp; omega
          · rw [List.mem_append, List.mem_cons] at hb
            rcases hb with hb | rfl | hb
            · exact .inr ⟨hno b (List.mem_of_mem_take hb), List.mem_of_mem_take hb⟩
            · exact .inl ⟨rfl, rfl⟩
            · exact .inr ⟨hno b (List.mem_of_mem_drop hb), List.mem_of_mem_drop hb⟩
          · rw [← List.take_append_drop i M, List.mem_append] at hb
            rw [List.mem_append, List.mem_cons]
            exact hb.imp id .inr
        obtain ⟨w9, hrun9, hmap9, ho9⟩ := hst
        have hobj9 := ho9.heap hobj8 (by simpa using Ne.symm HPR.out.ne4)
        have y3 := ho9.cell x3 (by simpa using Ne.symm HPR.out.ne4)
        have y5 := ho9.cell x5 (by simpa using Ne.symm HPR.out.ne4)
        have y6 : w9.cell? ⟨p, 6, none⟩ = some (.int .i64 lv) := by rw [HLV.out]; exact obj_cell hobj9 rfl
        obtain ⟨pe, hpe⟩ : ∃ a, a = s.peak := ⟨_, rfl⟩
        have y8 : w9.cell? ⟨p, 8, none⟩ = some (.int .i64 pe) := by rw [hpe]; exact obj_cell hobj9 rfl
        have y7 : w9.cell? ⟨p, 7, none⟩ = some (.int .i64 hi) := by rw [HHI.out]; exact obj_cell hobj9 rfl
        have g6 := obj_free hobj9 6
        have g7 := obj_free hobj9 7
        have g8 := obj_free hobj9 8
        have hpeb : pe ≤ 16777216 := by rw [hpe]; have := HG.out.peak; have := HG.out.cap; omega
        have HPE := Lib.hid hpe
        have HOBJ9 := Lib.hid hobj9
        have HMAP9 := Lib.hid hmap9
        have HW8 := Lib.hid hW8
        have HR7 := Lib.hid hrow7
        have HOO7 := Lib.hid ho7
        have HOO78 := Lib.hid ho78
        have HOO9 := Lib.hid ho9
        have HG2 := Lib.hid hg2
        clear hobj7 hobj8 hobj9 hmap8 hmapW hmap9 hW8 hrow7 ho7 ho78 ho9 hg2 hpe HFI k1 k2 k3 k4
        go_wp2_with fail
        go_region_held3 (fun w' => w'.cell? ⟨p, 3, none⟩ = some (.map (some mb)) ∧ w'.cell? ⟨p, 5, none⟩ = some (.int .i64 ((nx : Int) + 1))) (first | exact ⟨x3, x5⟩ | exact ⟨y3, y5⟩) (fail)
        go_wp2_with fail
        obtain ⟨W10, hW10⟩ : ∃ W10, W10 = w9.setCell ⟨p, 6, none⟩ (.int .i64 ((lv : Int) + (words : Int))) := ⟨_, rfl⟩
        have hobj10 : W10.heap[p]? = some (.cells ((arCells { s with L := M, packed := pk, moves := mv, next := s.next + 1 } (.slice (some ⟨cg, 0, none⟩) H cc) (.slice (some ⟨g2, 0, none⟩) (M.length + 1) cap2) mb).setIfInBounds 6 (.int .i64 ((lv : Int) + (words : Int)))) 63 (0, 0)) := by rw [hW10]; exact obj_put HOBJ9.out 6 _
        rw [← hW10]
        have z8 : W10.cell? ⟨p, 8, none⟩ = some (.int .i64 pe) := by rw [HPE.out]; exact obj_cell hobj10 (by simp [arCells])
        have z6 : W10.cell? ⟨p, 6, none⟩ = some (.int .i64 ((lv : Int) + (words : Int))) := obj_cell hobj10 (by simp [arCells])
        have z7 : W10.cell? ⟨p, 7, none⟩ = some (.int .i64 hi) := by rw [HHI.out]; exact obj_cell hobj10 (by simp [arCells])
        have z5 : W10.cell? ⟨p, 5, none⟩ = some (.int .i64 ((nx : Int) + 1)) := by rw [HNX.out]; exact obj_cell hobj10 (by simp [arCells])
        have zf8 := obj_free hobj10 8
        have zf7 := obj_free hobj10 7
        have HOBJ10 := Lib.hid hobj10
        have HW10 := Lib.hid hW10
        clear hobj10 hW10
        obtain ⟨mx, hmx⟩ : ∃ mx : Nat, (mx : Int) = if (pe : Int) < (lv : Int) + (words : Int) then (lv : Int) + (words : Int) else (pe : Int) := ⟨max pe (lv + words), by rw [Nat.max_def]; split <;> split <;> omega⟩
        have HMX : Hid (mx = max s.peak (s.live + words)) := by
          show _ = _
          rw [← HPE.out, ← HLV.out, Nat.max_def]
          split at hmx <;> split <;> omega
        go_region
        rw [← hmx]
        obtain ⟨W11, hW11⟩ : ∃ W11, W11 = (W10.setCell ⟨p, 8, none⟩ (.int .i64 (mx : Int))).drew := ⟨_, rfl⟩
        have hobj11 : W11.heap[p]? = some (.cells (((arCells { s with L := M, packed := pk, moves := mv, next := s.next + 1 } (.slice (some ⟨cg, 0, none⟩) H cc) (.slice (some ⟨g2, 0, none⟩) (M.length + 1) cap2) mb).setIfInBounds 6 (.int .i64 ((lv : Int) + (words : Int)))).setIfInBounds 8 (.int .i64 (mx : Int))) 63 (0, 0)) := by rw [hW11]; exact obj_put HOBJ10.out 8 _
        rw [← hW11]
        have v7 : W11.cell? ⟨p, 7, none⟩ = some (.int .i64 hi) := by rw [HHI.out]; exact obj_cell hobj11 (by simp [arCells])
        have v5 : W11.cell? ⟨p, 5, none⟩ = some (.int .i64 ((nx : Int) + 1)) := by rw [HNX.out]; exact obj_cell hobj11 (by simp [arCells])
        have vf7 := obj_free hobj11 7
        have HOBJ11 := Lib.hid hobj11
        have HW11 := Lib.hid hW11
        obtain ⟨hx, hhx⟩ : ∃ hx : Nat, (hx : Int) = if (hi : Int) < (f : Int) + (words : Int) then (f : Int) + (words : Int) else (hi : Int) := ⟨max hi (f + words), by rw [Nat.max_def]; split <;> split <;> omega⟩
        have HHX : Hid (hx = max s.high (E M i + words)) := by
          show _ = _
          rw [← HHI.out, ← HF.out, Nat.max_def]
          split at hhx <;> split <;> omega
        have HFIN : Hid (∃ S' s', Given s words s' ∧ Ar p S' s' (W11.setCell ⟨p, 7, none⟩ (.int .i64 (hx : Int))) ∧ Fr S w S' ∧ Oth S w (W11.setCell ⟨p, 7, none⟩ (.int .i64 (hx : Int)))) := by
          have hpr := HPR.out
          have hb1 := HFIT.out
          have o1 : Oth [p] w9 (W11.setCell ⟨p, 7, none⟩ (.int .i64 (hx : Int))) := by
            rw [HW11.out, HW10.out]
            exact ((((Oth.refl [p] w9).setCell (.inl (by simp)) _).setCell (.inl (by simp)) _).drew).setCell (.inl (by simp)) _
          have hcs1 : cs1.length = H := by have := hpr.row.len; simpa using this
          have hzl : (List.replicate words (0 : Int)).length = words := by simp
          have hfH : f + words ≤ H := HHH.out.2
          have hcgb : cg ∉ bv.ownBlock.toList := fun e => by simp only [Option.mem_toList] at e; exact hpr.ne3 e
          have hcgl : cg < W6.heap.size := by have := hpr.row.lt; have := hoW.size; have := ho6.size; omega
          have hg2c : g2 ≠ cg := by
            rcases HG2.out with h | h
            · intro e; rw [e] at h; exact hpr.ne3 h
            · omega
          have hrowW : Row 59 1 cg H cc ((splice cs1 f (List.replicate words 0)).map (Value.int .i64)) W := by
            rw [splice_map, HW.out]
            have := row_splice (vs := (List.replicate words (0 : Int)).map (Value.int .i64)) (o := f) hpr.row (by simp; omega)
            simpa using this
          have hrowF := (((((hrowW.oth ho6 (by simpa using hpr.ne1)).oth HOO7.out hcgb).oth HOO78.out (by simpa using hpr.ne1)).oth HOO9.out (by simpa using hpr.ne2)).oth o1 (by simpa using hpr.ne1))
          have hblF := (((HR7.out.oth HOO78.out (by simpa using hg2p)).oth HOO9.out (by simpa using hg2m)).oth o1 (by simpa using hg2p))
          refine ⟨own4 p (.slice (some ⟨cg, 0, none⟩) H cc) (.slice (some ⟨g2, 0, none⟩) (M.length + 1) cap2) mb, placed s M i words pk mv, hb1.giv, ⟨_, _, _, splice cs1 f (List.replicate words 0), rfl, ?_, ?_, ?_, ?_, ?_, ?_⟩, ?_, ?_⟩
          · rw [obj_put HOBJ11.out]
            simp [arCells, placed, HMX.out, HHX.out, HLV.out]
          · have : (placed s M i words pk mv).high = H := by rw [HHH.out.1]; rfl
            rw [this]; exact hrowF.owns
          · have hl : (placed s M i words pk mv).L.length = M.length + 1 := by have := hb1.le; simp [placed]; omega
            rw [hl]
            have he : (placed s M i words pk mv).L = M.take i ++ ⟨s.next + 1, f, words, List.replicate words 0⟩ :: M.drop i := by rw [HF.out]; rfl
            rw [he]
            exact hblF.owns
          · have he : (placed s M i words pk mv).L = M.take i ++ ⟨s.next + 1, f, words, List.replicate words 0⟩ :: M.drop i := by rw [HF.out]; rfl
            rw [he]
            exact HMAP9.out.oth o1 (by simpa using hpr.ne4)
          · simp only [Value.ownBlock, Option.toList_some, List.nodup_cons, List.mem_cons, List.mem_append, List.mem_singleton, List.cons_append, List.nil_append, List.not_mem_nil, not_or, List.nodup_nil, and_true, not_false_eq_true]
            exact ⟨⟨Ne.symm hpr.ne4, Ne.symm hpr.ne1, Ne.symm hg2p⟩, ⟨Ne.symm hpr.ne2, Ne.symm hg2m⟩, Ne.symm hg2c⟩
          · intro b hb
            have he : (placed s M i words pk mv).L = M.take i ++ ⟨s.next + 1, f, words, List.replicate words 0⟩ :: M.drop i := by rw [HF.out]; rfl
            rw [he, List.mem_append, List.mem_cons] at hb
            rcases hb with hb | rfl | hb
            · rw [splice_apart (by omega) ?_]
              · exact hpr.data b (List.mem_of_mem_take hb)
              · left
                obtain ⟨j, hj⟩ := List.mem_iff_getElem?.1 hb
                rw [List.getElem?_take] at hj
                split at hj
                · rw [HF.out]; exact hb1.before j b (by assumption) hj
                · cases hj
            · simp only
              have := splice_here (xs := cs1) (o := f) (vs := List.replicate words (0 : Int)) (by omega)
              rw [hzl] at this
              exact this
            · rw [splice_apart (by omega) ?_]
              · exact hpr.data b (List.mem_of_mem_drop hb)
              · right
                obtain ⟨j, hj⟩ := List.mem_iff_getElem?.1 hb
                rw [List.getElem?_drop] at hj
                rw [hzl, HF.out]; exact hb1.after _ b (by omega) hj
          · intro k hk
            simp only [own4, Value.ownBlock, Option.toList_some, List.mem_cons, List.mem_append, List.cons_append, List.nil_append, List.not_mem_nil, or_false] at hk
            rcases hk with rfl | rfl | rfl | rfl
            · exact .inl hpr.inp
            · exact .inl hpr.inm
            · exact hpr.frc
            · rcases HG2.out with h | h
              · exact .inl (hpr.inb _ h)
              · right; have := hpr.oth.size; have := hoW.size; have := ho6.size; omega
          · have q1 : Oth S w W := hpr.oth.trans hoW (fun k hk => by simp at hk; subst hk; exact hpr.frc)
            have q2 : Oth S w W6 := q1.trans ho6 (fun k hk => by simp at hk; subst hk; exact .inl hpr.inp)
            have q3 : Oth S w w7 := q2.trans HOO7.out (fun k hk => .inl (hpr.inb k (by simpa using hk)))
            have q4 : Oth S w W8 := q3.trans HOO78.out (fun k hk => by simp at hk; subst hk; exact .inl hpr.inp)
            have q5 : Oth S w w9 := q4.trans HOO9.out (fun k hk => by simp at hk; subst hk; exact .inl hpr.inm)
            exact q5.trans o1 (fun k hk => by simp at hk; subst hk; exact .inl hpr.inp)
        clear hobj11 hW11 hmx
        have hxe : (f : Int) + (words : Int) = (hx : Int) := by rw [hhx]; split <;> omega
        clear hhx
        go_wp2_with fail
        go_ret2
        rw [hxe]
        exact ⟨by rw [HNX.out]; rfl, HFIN.out⟩
    · have t5 : ¬ (0 : Int) < (f : Int) + (words : Int) - (hi : Int) := by omega
      have t7 : IntKind.i64.wrap ((f : Int) + (words : Int)) = (f : Int) + (words : Int) := by rw [IntKind.wrap_i64]; omega
      have t8 : IntKind.i64.wrap ((f : Int) + (words : Int) - (hi : Int)) = (f : Int) + (words : Int) - (hi : Int) := by rw [IntKind.wrap_i64]; omega
      obtain ⟨cg, cc, hce, _, hrow2⟩ := row_of_owns hcells (by omega)
      injection hce with e1 e2 e3
      subst e1
      subst e3
      have hcb : cv.ownBlock = some cg := by rw [← hcvb]; rfl
      have HPRE : Hid (Pre p S s M pk mv bv mb cg ccap hi cs w w2) := by
        refine ⟨by rw [← HCV.out]; exact HOBJ.out, hrow2, HA.out.blocks, HA.out.map, (HNE.out.2.1 cg hcb).1, (HNE.out.2.1 cg hcb).2, HNE.out.2.2.2 cg hcb, HNE.out.1, HNE.out.2.2.1, HA.out.data, HO2.out, ?_, ?_, ?_, ?_⟩
        · left; rw [HSS.out]; simp [own4, hcb]
        · rw [HSS.out]; simp [own4]
        · rw [HSS.out]; simp [own4]
        · intro k hk; rw [HSS.out]; simp [own4, hk]
      have hcc := hrow2.cap_le
      obtain ⟨cc, hcce⟩ : ∃ cc, cc = ccap := ⟨_, rfl⟩
      obtain ⟨w4, hw4⟩ : ∃ w4, w4 = w2 := ⟨_, rfl⟩
      rw [← hcce] at hcc HPRE c1
      rw [← hw4] at HPRE c1 HOBJ HA HO2
      rw [← hw4]
      have b5 : f + words ≤ cc := by have := hcc.1; omega
      have b6 : cc ≤ 9223372036854775807 := by have := hcc.2; unfold maxLen at this; omega
      have b7 : (f : Int) + (words : Int) ≤ (cc : Int) := by omega
      have b8 : ¬ (cc = f) := by omega
      have b9 : f + words - f = words := by omega
      have b10 : (f : Int) ≤ (f : Int) + (words : Int) := by omega
      have b11 : (f : Int) ≤ (cc : Int) := by omega
      have hclr : ∀ c', (Builtin.clear_ #[23] 0 #[.slice (some ⟨cg, f, none⟩) words c']).run Try.prog w4 = .ok (.tuple #[]) (w4.setCells cg f (List.replicate words (.int .i64 0))) := fun c' =>
        run_clear_words w4 0 cg f words c' (by omega) (fun j hj => HPRE.out.row.there (by have := hcc.1; omega)) (fun j hj => HPRE.out.row.free _)
      obtain ⟨W, hW⟩ : ∃ W, W = w4.setCells cg f (List.replicate words (.int .i64 0)) := ⟨_, rfl⟩
      rw [← hW] at hclr
      have HW := Lib.hid hW
      obtain ⟨H, hH⟩ : ∃ H, H = hi := ⟨_, rfl⟩
      have HHH : Hid (H = max s.high (E M i + words) ∧ f + words ≤ H) := ⟨by rw [hH, ← HF.out, ← HHI.out, Nat.max_def]; split <;> omega, by omega⟩
      have CS1 : Hid (∃ cs1, Pre p S s M pk mv bv mb cg cc H cs1 w w4) := ⟨_, by rw [hH]; exact HPRE.out⟩
      clear hrow2 hcc hcells hcvb hW hH HPRE hcb hcce hw4
      obtain ⟨cs1, hpre⟩ := CS1.out
      have hoW : Oth [cg] w4 W := by rw [HW.out]; exact (Oth.refl _ _).setCells (.inl (by simp)) _ _
      have hobjW := hoW.heap hpre.obj (by simpa using Ne.symm hpre.ne1)
      obtain ⟨nx, hnx'⟩ : ∃ a, a = s.next := ⟨_, rfl⟩
      obtain ⟨bb, bcap, hbv⟩ : ∃ b c, bv = .slice b M.length c := by obtain ⟨b, c, h, _⟩ := owns_blocks hpre.bl; exact ⟨b, c, h⟩
      have d5 : W.cell? ⟨p, 5, none⟩ = some (.int .i64 nx) := by rw [hnx']; exact obj_cell hobjW rfl
      have f5 := obj_free hobjW 5
      have d2 : W.cell? ⟨p, 2, none⟩ = some (.slice bb M.length bcap) := by rw [← hbv]; exact obj_cell hobjW rfl
      have hpW := lt_of_block hobjW
      rw [← hnx'] at hnx
      have HNX := Lib.hid hnx'
      have HBV := Lib.hid hbv
      have HPR := Lib.hid hpre
      clear hpre hobjW hnx' hbv
      go_wp2_with (at_builtin; refine wpList_clear_run _ rfl _ 23 rfl _ rfl (hclr _) ?_)
      obtain ⟨W6, hW6⟩ : ∃ W6, W6 = W.setCell ⟨p, 5, none⟩ (.int .i64 ((nx : Int) + 1)) := ⟨_, rfl⟩
      have ho6 : Oth [p] W W6 := by rw [hW6]; exact (Oth.refl _ _).setCell (.inl (by simp)) _
      have hobj6 : W6.heap[p]? = some (.cells (arCells { s with L := M, packed := pk, moves := mv, next := s.next + 1 } (.slice (some ⟨cg, 0, none⟩) H cc) bv mb) 63 (0, 0)) := by
        have := obj_put (hoW.heap HPR.out.obj (by simpa using Ne.symm HPR.out.ne1)) 5 (.int .i64 ((nx : Int) + 1))
        rw [hW6, this, HNX.out]; simp [arCells]
      rw [← hW6]
      have e2 : W6.cell? ⟨p, 2, none⟩ = some (.slice bb M.length bcap) := by rw [← HBV.out]; exact obj_cell hobj6 rfl
      have e5 : W6.cell? ⟨p, 5, none⟩ = some (.int .i64 ((nx : Int) + 1)) := by rw [HNX.out]; exact obj_cell hobj6 rfl
      have hp6 := lt_of_block hobj6
      have hbl6 : W6.ownsRow 0 45 3 bv M.length (bcs M) := owns_oth (owns_oth HPR.out.bl hoW (fun k hk e => by simp at e; subst e; exact HPR.out.ne3 hk)) ho6 (fun k hk e => by simp at e; subst e; exact (HPR.out.ne5 _ hk).1 rfl)
      have HINS : Hid (Calls Try.prog 29 #[.slice bb M.length bcap, .int .i64 i, .slice (some ⟨W6.heap.size, 0, none⟩) 1 1] (W6.alloc (.cells #[.int .i64 ((nx : Int) + 1), .int .i64 f, .int .i64 words] 45)).drew fun e w' => ∃ g2 cap2, e = .returned (.slice (some ⟨g2, 0, none⟩) (M.length + 1) cap2) ∧ w'.cell? ⟨p, 5, none⟩ = some (.int .i64 ((nx : Int) + 1)) ∧ w'.cell? ⟨p, 2, none⟩ = some (.slice bb M.length bcap) ∧ w'.frozen? ⟨p, 2, none⟩ = false ∧ (w'.setCell ⟨p, 2, none⟩ (.slice (some ⟨g2, 0, none⟩) (M.length + 1) cap2)).cell? ⟨p, 5, none⟩ = some (.int .i64 ((nx : Int) + 1)) ∧ Hid (Row 45 3 g2 (M.length + 1) cap2 (bcs (M.take i ++ ⟨s.next + 1, f, words, List.replicate words 0⟩ :: M.drop i)) w' ∧ Oth bv.ownBlock.toList W6 w' ∧ (bv.ownBlock = some g2 ∨ W6.heap.size ≤ g2))) := by
        have ho7 : Oth [] W6 (W6.alloc (.cells #[.int .i64 ((nx : Int) + 1), .int .i64 f, .int .i64 words] 45)).drew := ((Oth.refl _ _).alloc _).drew
        have := insert_blk bv M i ⟨s.next + 1, f, words, List.replicate words 0⟩ W6.heap.size (W6.alloc (.cells #[.int .i64 ((nx : Int) + 1), .int .i64 f, .int .i64 words] 45)).drew (owns_oth hbl6 ho7 (by simp)) (by rw [HNX.out]; exact heap_alloc_new _ _) (fun e => by have := (hbl6.lt _ e).2; omega) (by rw [HFIT.out.len]; exact HG.out.cnt) HFIT.out.le
        rw [HBV.out] at this ⊢
        refine this.mono ?_
        rintro e w' ⟨g2, cap2, rfl, q1, q2, q3⟩
        rw [← HBV.out] at q2 q3
        have q4 : Oth bv.ownBlock.toList W6 w' := (ho7.mono (by simp)).trans q2 (Fr.refl _ _)
        have hobj7 := q4.heap hobj6 (fun e => by simp only [Option.mem_toList] at e; exact (HPR.out.ne5 _ e).1 rfl)
        refine ⟨g2, cap2, rfl, by rw [HNX.out]; exact obj_cell hobj7 rfl, by rw [← HBV.out]; exact obj_cell hobj7 rfl, obj_free hobj7 2, ?_, q1, by rw [← HBV.out]; exact q4, by rw [← HBV.out]; exact q3.imp id (fun h => by simp at h; omega)⟩
        exact obj_cell (obj_put hobj7 2 _) (by rw [HNX.out]; simp [arCells])
      have HOBJ6 := Lib.hid hobj6
      have HW6 := Lib.hid hW6
      clear hobj6 hW6 hbl6
      go_region_with ((go_at_call 29; refine HINS.out.mono ?_; rintro e w7 ⟨g2, cap2, rfl, k1, k2, k3, k4, HFI⟩))
      all_goals
        obtain ⟨W8, hW8⟩ : ∃ W8, W8 = w7.setCell ⟨p, 2, none⟩ (.slice (some ⟨g2, 0, none⟩) (M.length + 1) cap2) := ⟨_, rfl⟩
        obtain ⟨hrow7, ho7, hg2⟩ := HFI.out
        have hobj7 := ho7.heap HOBJ6.out (fun e => by simp only [Option.mem_toList] at e; exact (HPR.out.ne5 _ e).1 rfl)
        have hobj8 : W8.heap[p]? = some (.cells (arCells { s with L := M, packed := pk, moves := mv, next := s.next + 1 } (.slice (some ⟨cg, 0, none⟩) H cc) (.slice (some ⟨g2, 0, none⟩) (M.length + 1) cap2) mb) 63 (0, 0)) := by
          rw [hW8, obj_put hobj7]; simp [arCells]
        have ho78 : Oth [p] w7 W8 := by rw [hW8]; exact (Oth.refl _ _).setCell (.inl (by simp)) _
        rw [← hW8]
        have x3 : W8.cell? ⟨p, 3, none⟩ = some (.map (some mb)) := obj_cell hobj8 rfl
        have x5 : W8.cell? ⟨p, 5, none⟩ = some (.int .i64 ((nx : Int) + 1)) := by rw [HNX.out]; exact obj_cell hobj8 rfl
        have hg2p : g2 ≠ p := by
          rcases hg2 with h | h
          · exact (HPR.out.ne5 _ h).1
          · omega
        have hmapW : MapI mb M W := HPR.out.map.oth hoW (by simpa using Ne.symm HPR.out.ne2)
        have hmb6 : mb < W6.heap.size := by have := hmapW.lt; have := ho6.size; omega
        have hg2m : g2 ≠ mb := by
          rcases hg2 with h | h
          · exact (HPR.out.ne5 _ h).2
          · omega
        have hmap8 : MapI mb M W8 := ((hmapW.oth ho6 (by simpa using HPR.out.ne4)).oth ho7 (fun e => by simp only [Option.mem_toList] at e; exact (HPR.out.ne5 _ e).2 rfl)).oth ho78 (by simpa using HPR.out.ne4)
        have hst : ∃ w9, (Instr.mapUpdate 60 (.map (some mb)) (.int .i64 ((nx : Int) + 1)) (.int .i64 (f : Int))).run Try.prog W8.drew = .ok () w9 ∧ MapI mb (M.take i ++ ⟨s.next + 1, f, words, List.replicate words 0⟩ :: M.drop i) w9 ∧ Oth [mb] W8 w9 := by
          obtain ⟨D, hD, hMD⟩ := hmap8.oth (S := []) ((Oth.refl _ _).drew) (by simp)
          obtain ⟨w9, r1, r2, r3⟩ := hD.store law3 Try.underlying60 (by rw [HFIT.out.len]; have := HG.out.cnt; unfold maxLen; omega) (Maps.keyOf_int_mk Try.underlying3 (a := (nx : Int) + 1) (wf63 (by omega) (by omega))) (plainElem_int Try.underlying3 (a := (f : Int)) (wf63 (by omega) (by omega)))
          refine ⟨w9, r1, mapI_of r2 ?_, ((Oth.refl [mb] W8).drew).grown r3.grown (fun k hk => by cases hk; exact .inl (by simp))⟩
          have hnn : ((nx : Int) + 1) = ((s.next + 1 : Nat) : Int) := by have := HNX.out; omega
          rw [hnn]
          have hno : ∀ b, b ∈ M → b.h ≠ s.next + 1 := fun b hb => by have := (HFIT.out.blk b hb).2.2; omega
          refine hMD.put (s.next + 1) f ?_ (fun b hb => ?_) ⟨⟨s.next + 1, f, words, List.replicate words 0⟩, by simp, rfl⟩ (fun b hb _ => ⟨b, ?_, rfl⟩)
          · rw [if_neg (fun ⟨b, h1, h2⟩ => hno b h1 h2)]
            have := HFIT.out.le
            simp; omega
          · rw [List.mem_append, List.mem_cons] at hb
            rcases hb with hb | rfl | hb
            · exact .inr ⟨hno b (List.mem_of_mem_take hb), List.mem_of_mem_take hb⟩
            · exact .inl ⟨rfl, rfl⟩
            · exact .inr ⟨hno b (List.mem_of_mem_drop hb), List.mem_of_mem_drop hb⟩
          · rw [← List.take_append_drop i M, List.mem_append] at hb
            rw [List.mem_append, List.mem_cons]
            exact hb.imp id .inr
        obtain ⟨w9, hrun9, hmap9, ho9⟩ := hst
        have hobj9 := ho9.heap hobj8 (by simpa using Ne.symm HPR.out.ne4)
        have y3 := ho9.cell x3 (by simpa using Ne.symm HPR.out.ne4)
        have y5 := ho9.cell x5 (by simpa using Ne.symm HPR.out.ne4)
        have y6 : w9.cell? ⟨p, 6, none⟩ = some (.int .i64 lv) := by rw [HLV.out]; exact obj_cell hobj9 rfl
        obtain ⟨pe, hpe⟩ : ∃ a, a = s.peak := ⟨_, rfl⟩
        have y8 : w9.cell? ⟨p, 8, none⟩ = some (.int .i64 pe) := by rw [hpe]; exact obj_cell hobj9 rfl
        have y7 : w9.cell? ⟨p, 7, none⟩ = some (.int .i64 hi) := by rw [HHI.out]; exact obj_cell hobj9 rfl
        have g6 := obj_free hobj9 6
        have g7 := obj_free hobj9 7
        have g8 := obj_free hobj9 8
        have hpeb : pe ≤ 16777216 := by rw [hpe]; have := HG.out.peak; have := HG.out.cap; omega
        have HPE := Lib.hid hpe
        have HOBJ9 := Lib.hid hobj9
        have HMAP9 := Lib.hid hmap9
        have HW8 := Lib.hid hW8
        have HR7 := Lib.hid hrow7
        have HOO7 := Lib.hid ho7
        have HOO78 := Lib.hid ho78
        have HOO9 := Lib.hid ho9
        have HG2 := Lib.hid hg2
        clear hobj7 hobj8 hobj9 hmap8 hmapW hmap9 hW8 hrow7 ho7 ho78 ho9 hg2 hpe HFI k1 k2 k3 k4
        go_wp2_with fail
        go_region_held3 (fun w' => w'.cell? ⟨p, 3, none⟩ = some (.map (some mb)) ∧ w'.cell? ⟨p, 5, none⟩ = some (.int .i64 ((nx : Int) + 1))) (first | exact ⟨x3, x5⟩ | exact ⟨y3, y5⟩) (fail)
        go_wp2_with fail
        obtain ⟨W10, hW10⟩ : ∃ W10, W10 = w9.setCell ⟨p, 6, none⟩ (.int .i64 ((lv : Int) + (words : Int))) := ⟨_, rfl⟩
        have hobj10 : W10.heap[p]? = some (.cells ((arCells { s with L := M, packed := pk, moves := mv, next := s.next + 1 } (.slice (some ⟨cg, 0, none⟩) H cc) (.slice (some ⟨g2, 0, none⟩) (M.length + 1) cap2) mb).setIfInBounds 6 (.int .i64 ((lv : Int) + (words : Int)))) 63 (0, 0)) := by rw [hW10]; exact obj_put HOBJ9.out 6 _
        rw [← hW10]
        have z8 : W10.cell? ⟨p, 8, none⟩ = some (.int .i64 pe) := by rw [HPE.out]; exact obj_cell hobj10 (by simp [arCells])
        have z6 : W10.cell? ⟨p, 6, none⟩ = some (.int .i64 ((lv : Int) + (words : Int))) := obj_cell hobj10 (by simp [arCells])
        have z7 : W10.cell? ⟨p, 7, none⟩ = some (.int .i64 hi) := by rw [HHI.out]; exact obj_cell hobj10 (by simp [arCells])
        have z5 : W10.cell? ⟨p, 5, none⟩ = some (.int .i64 ((nx : Int) + 1)) := by rw [HNX.out]; exact obj_cell hobj10 (by simp [arCells])
        have zf8 := obj_free hobj10 8
        have zf7 := obj_free hobj10 7
        have HOBJ10 := Lib.hid hobj10
        have HW10 := Lib.hid hW10
        clear hobj10 hW10
        obtain ⟨mx, hmx⟩ : ∃ mx : Nat, (mx : Int) = if (pe : Int) < (lv : Int) + (words : Int) then (lv : Int) + (words : Int) else (pe : Int) := ⟨max pe (lv + words), by rw [Nat.max_def]; split <;> split <;> omega⟩
        have HMX : Hid (mx = max s.peak (s.live + words)) := by
          show _ = _
          rw [← HPE.out, ← HLV.out, Nat.max_def]
          split at hmx <;> split <;> omega
        go_region
        rw [← hmx]
        obtain ⟨W11, hW11⟩ : ∃ W11, W11 = (W10.setCell ⟨p, 8, none⟩ (.int .i64 (mx : Int))).drew := ⟨_, rfl⟩
        have hobj11 : W11.heap[p]? = some (.cells (((arCells { s with L := M, packed := pk, moves := mv, next := s.next + 1 } (.slice (some ⟨cg, 0, none⟩) H cc) (.slice (some ⟨g2, 0, none⟩) (M.length + 1) cap2) mb).setIfInBounds 6 (.int .i64 ((lv : Int) + (words : Int)))).setIfInBounds 8 (.int .i64 (mx : Int))) 63 (0, 0)) := by rw [hW11]; exact obj_put HOBJ10.out 8 _
        rw [← hW11]
        have v7 : W11.cell? ⟨p, 7, none⟩ = some (.int .i64 hi) := by rw [HHI.out]; exact obj_cell hobj11 (by simp [arCells])
        have v5 : W11.cell? ⟨p, 5, none⟩ = some (.int .i64 ((nx : Int) + 1)) := by rw [HNX.out]; exact obj_cell hobj11 (by simp [arCells])
        have vf7 := obj_free hobj11 7
        have HOBJ11 := Lib.hid hobj11
        have HW11 := Lib.hid hW11
        obtain ⟨hx, hhx⟩ : ∃ hx : Nat, (hx : Int) = if (hi : Int) < (f : Int) + (words : Int) then (f : Int) + (words : Int) else (hi : Int) := ⟨max hi (f + words), by rw [Nat.max_def]; split <;> split <;> omega⟩
        have HHX : Hid (hx = max s.high (E M i + words)) := by
          show _ = _
          rw [← HHI.out, ← HF.out, Nat.max_def]
          split at hhx <;> split <;> omega
        have HFIN : Hid (∃ S' s', Given s words s' ∧ Ar p S' s' (W11.setCell ⟨p, 7, none⟩ (.int .i64 (hx : Int))) ∧ Fr S w S' ∧ Oth S w (W11.setCell ⟨p, 7, none⟩ (.int .i64 (hx : Int)))) := by
          have hpr := HPR.out
          have hb1 := HFIT.out
          have o1 : Oth [p] w9 (W11.setCell ⟨p, 7, none⟩ (.int .i64 (hx : Int))) := by
            rw [HW11.out, HW10.out]
            exact ((((Oth.refl [p] w9).setCell (.inl (by simp)) _).setCell (.inl (by simp)) _).drew).setCell (.inl (by simp)) _
          have hcs1 : cs1.length = H := by have := hpr.row.len; simpa using this
          have hzl : (List.replicate words (0 : Int)).length = words := by simp
          have hfH : f + words ≤ H := HHH.out.2
          have hcgb : cg ∉ bv.ownBlock.toList := fun e => by simp only [Option.mem_toList] at e; exact hpr.ne3 e
          have hcgl : cg < W6.heap.size := by have := hpr.row.lt; have := hoW.size; have := ho6.size; omega
          have hg2c : g2 ≠ cg := by
            rcases HG2.out with h | h
            · intro e; rw [e] at h; exact hpr.ne3 h
            · omega
          have hrowW : Row 59 1 cg H cc ((splice cs1 f (List.replicate words 0)).map (Value.int .i64)) W := by
            rw [splice_map, HW.out]
            have := row_splice (vs := (List.replicate words (0 : Int)).map (Value.int .i64)) (o := f) hpr.row (by simp; omega)
            simpa using this
          have hrowF := (((((hrowW.oth ho6 (by simpa using hpr.ne1)).oth HOO7.out hcgb).oth HOO78.out (by simpa using hpr.ne1)).oth HOO9.out (by simpa using hpr.ne2)).oth o1 (by simpa using hpr.ne1))
          have hblF := (((HR7.out.oth HOO78.out (by simpa using hg2p)).oth HOO9.out (by simpa using hg2m)).oth o1 (by simpa using hg2p))
          refine ⟨own4 p (.slice (some ⟨cg, 0, none⟩) H cc) (.slice (some ⟨g2, 0, none⟩) (M.length + 1) cap2) mb, placed s M i words pk mv, hb1.giv, ⟨_, _, _, splice cs1 f (List.replicate words 0), rfl, ?_, ?_, ?_, ?_, ?_, ?_⟩, ?_, ?_⟩
          · rw [obj_put HOBJ11.out]
            simp [arCells, placed, HMX.out, HHX.out, HLV.out]
          · have : (placed s M i words pk mv).high = H := by rw [HHH.out.1]; rfl
            rw [this]; exact hrowF.owns
          · have hl : (placed s M i words pk mv).L.length = M.length + 1 := by have := hb1.le; simp [placed]; omega
            rw [hl]
            have he : (placed s M i words pk mv).L = M.take i ++ ⟨s.next + 1, f, words, List.replicate words 0⟩ :: M.drop i := by rw [HF.out]; rfl
            rw [he]
            exact hblF.owns
          · have he : (placed s M i words pk mv).L = M.take i ++ ⟨s.next + 1, f, words, List.replicate words 0⟩ :: M.drop i := by rw [HF.out]; rfl
            rw [he]
            exact HMAP9.out.oth o1 (by simpa using hpr.ne4)
          · simp only [Value.ownBlock, Option.toList_some, List.nodup_cons, List.mem_cons, List.mem_append, List.mem_singleton, List.cons_append, List.nil_append, List.not_mem_nil, not_or, List.nodup_nil, and_true, not_false_eq_true]
            exact ⟨⟨Ne.symm hpr.ne4, Ne.symm hpr.ne1, Ne.symm hg2p⟩, ⟨Ne.symm hpr.ne2, Ne.symm hg2m⟩, Ne.symm hg2c⟩
          · intro b hb
            have he : (placed s M i words pk mv).L = M.take i ++ ⟨s.next + 1, f, words, List.replicate words 0⟩ :: M.drop i := by rw [HF.out]; rfl
            rw [he, List.mem_append, List.mem_cons] at hb
            rcases hb with hb | rfl | hb
            · rw [splice_apart (by omega) ?_]
              · exact hpr.data b (List.mem_of_mem_take hb)
              · left
                obtain ⟨j, hj⟩ := List.mem_iff_getElem?.1 hb
                rw [List.getElem?_take] at hj
                split at hj
                · rw [HF.out]; exact hb1.before j b (by assumption) hj
                · cases hj
            · simp only
              have := splice_here (xs := cs1) (o := f) (vs := List.replicate words (0 : Int)) (by omega)
              rw [hzl] at this
              exact this
            · rw [splice_apart (by omega) ?_]
              · exact hpr.data b (List.mem_of_mem_drop hb)
              · right
                obtain ⟨j, hj⟩ := List.mem_iff_getElem?.1 hb
                rw [List.getElem?_drop] at hj
                rw [hzl, HF.out]; exact hb1.after _ b (by omega) hj
          · intro k hk
            simp only [own4, Value.ownBlock, Option.toList_some, List.mem_cons, List.mem_append, List.cons_append, List.nil_append, List.not_mem_nil, or_false] at hk
            rcases hk with rfl | rfl | rfl | rfl
            · exact .inl hpr.inp
            · exact .inl hpr.inm
            · exact hpr.frc
            · rcases HG2.out with h | h
              · exact .inl (hpr.inb _ h)
              · right; have := hpr.oth.size; have := hoW.size; have := ho6.size; omega
          · have q1 : Oth S w W := hpr.oth.trans hoW (fun k hk => by simp at hk; subst hk; exact hpr.frc)
            have q2 : Oth S w W6 := q1.trans ho6 (fun k hk => by simp at hk; subst hk; exact .inl hpr.inp)
            have q3 : Oth S w w7 := q2.trans HOO7.out (fun k hk => .inl (hpr.inb k (by simpa using hk)))
            have q4 : Oth S w W8 := q3.trans HOO78.out (fun k hk => by simp at hk; subst hk; exact .inl hpr.inp)
            have q5 : Oth S w w9 := q4.trans HOO9.out (fun k hk => by simp at hk; subst hk; exact .inl hpr.inm)
            exact q5.trans o1 (fun k hk => by simp at hk; subst hk; exact .inl hpr.inp)
        clear hobj11 hW11 hmx
        have hxe : (hi : Int) = (hx : Int) := by rw [hhx]; split <;> omega
        clear hhx
        go_wp2_with fail
        go_ret2
        rw [hxe]
        exact ⟨by rw [HNX.out]; rfl, HFIN.out⟩
end Go.Proofs.Ythllilkafdgheaa
