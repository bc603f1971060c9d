/- The walk of Free. Condition: the invariant. -/
import Derived.Test.YthllilkafdgheaaAm
namespace Go.Proofs.Ythllilkafdgheaa
open Go.RowKit
set_option linter.unusedVariables false
set_option linter.unusedSimpArgs false

theorem Free_miss (p : Nat) (S : List Nat) (s : St) (k : Int) (w : World) (h : Ar p S s w) (hk : (Lit.int .i64 k).wf = true) (hx : ∀ b, b ∈ s.L → (b.h : Int) ≠ k) :
    Calls Try.prog 12 #[.pointer (some ⟨p, 0, none⟩), .int .i64 k] w fun e w' => e = .returned (.int .i64 14) ∧ w = w' := by
  have HI := Lib.hid (index_miss p S s k w h hk hx)
  clear h hx hk
  go_enter Try.func12, Try.ntmps12
  go_wp2_with fail
  refine HI.out.mono ?_
  rintro e w1 ⟨rfl, rfl⟩
  go_wp2_with fail
  go_ret
  exact ⟨rfl, rfl⟩

/-- The arena without its block number j. -/
def freed (s : St) (j : Nat) (x : Blk) : St := { s with L := s.L.take j ++ s.L.drop (j + 1), live := s.live - x.n, packed := min s.packed j }

theorem mem_del {L : List Blk} (h : L.Pairwise (fun a b => a.h ≠ b.h)) {j : Nat} {x : Blk} (hx : L[j]? = some x) (b : Blk) : b ∈ L.take j ++ L.drop (j + 1) ↔ b.h ≠ x.h ∧ b ∈ L := by
  constructor
  · intro hb
    rcases List.mem_append.1 hb with hb | hb
    · obtain ⟨i, hi⟩ := List.mem_iff_getElem?.1 hb
      rw [List.getElem?_take] at hi
      split at hi
      · exact ⟨hnd_ne h hi hx (by omega), List.mem_of_getElem? hi⟩
      · cases hi
    · obtain ⟨i, hi⟩ := List.mem_iff_getElem?.1 hb
      rw [List.getElem?_drop] at hi
      exact ⟨hnd_ne h hi hx (by omega), List.mem_of_getElem? hi⟩
  · rintro ⟨h1, h2⟩
    obtain ⟨i, hi⟩ := List.mem_iff_getElem?.1 h2
    rw [List.mem_append]
    rcases Nat.lt_trichotomy i j with h3 | h3 | h3
    · left; exact List.mem_iff_getElem?.2 ⟨i, by rw [List.getElem?_take, if_pos h3]; exact hi⟩
    · subst h3; rw [hx] at hi; cases hi; exact absurd rfl h1
    · right; exact List.mem_iff_getElem?.2 ⟨i - (j + 1), by rw [List.getElem?_drop, show j + 1 + (i - (j + 1)) = i by omega]; exact hi⟩

set_option maxHeartbeats 4000000 in
theorem Free_hit (p : Nat) (S : List Nat) (s : St) (j : Nat) (x : Blk) (w : World) (h : Ar p S s w) (hg : Good s) (hx : s.L[j]? = some x) :
    Calls Try.prog 12 #[.pointer (some ⟨p, 0, none⟩), .int .i64 x.h] w fun e w' => e = .returned (.int .i64 0) ∧ Ar p S (freed s j x) w' ∧ Oth S w w' := by
  have HI := Lib.hid (index_hit p S s j x w h hg hx)
  have HH := Lib.hid h
  have HX := Lib.hid hx
  have HG := Lib.hid hg
  have hj1 : j ≤ 1000 := by have := hg.cnt; have := (List.getElem?_eq_some_iff.1 hx).1; omega
  obtain ⟨k, hk⟩ : ∃ a, a = x.h := ⟨_, rfl⟩
  rw [← hk] at HI ⊢
  have HK := Lib.hid hk
  clear h hx hg hk
  go_enter Try.func12, Try.ntmps12
  go_wp2_with fail
  refine HI.out.mono ?_
  rintro e w1 ⟨rfl, ho⟩
  obtain ⟨cv, bv, mb, cs, hS, ha⟩ := HH.out.oth ho (by simp)
  have hjl := (List.getElem?_eq_some_iff.1 HX.out).1
  obtain ⟨g, cap, hbv, _, hrow⟩ := row_of_owns ha.blocks (by omega)
  obtain ⟨n, hn⟩ : ∃ n, n = s.L.length := ⟨_, rfl⟩
  rw [← hn] at hbv hrow hjl
  obtain ⟨lv, hlv⟩ : ∃ a, a = s.live := ⟨_, rfl⟩
  obtain ⟨xn, hxn⟩ : ∃ a, a = x.n := ⟨_, rfl⟩
  have c2 : w1.cell? ⟨p, 2, none⟩ = some (.slice (some ⟨g, 0, none⟩) n cap) := by rw [← hbv]; exact ha.cell rfl
  have c6 : w1.cell? ⟨p, 6, none⟩ = some (.int .i64 lv) := by rw [hlv]; exact ha.cell rfl
  have f6 := ha.free 6
  have q3 : w1.cell? ⟨g, j * 3 + 2, none⟩ = some (.int .i64 xn) := by rw [hxn]; exact hrow.cell (bcs_get _ _ _ HX.out).2.2
  have t1 : (j : Int) < (n : Int) := by omega
  have t2 : ¬ (j : Int) < 0 := by omega
  have hle : xn ≤ lv := by
    rw [hxn, hlv, HG.out.live]
    have : sumN s.L = sumN (s.L.take j) + (x.n + sumN (s.L.drop (j + 1))) := by
      have h1 : s.L.drop j = x :: s.L.drop (j + 1) := by
        obtain ⟨h2, h3⟩ := List.getElem?_eq_some_iff.1 HX.out
        rw [List.drop_eq_getElem_cons h2, h3]
      rw [← sumN_cons, ← h1, ← sumN_append, List.take_append_drop]
    omega
  have hlb : lv ≤ 16777216 := by rw [hlv]; have := HG.out.peak; have := HG.out.cap; omega
  have t3 : IntKind.i64.wrap ((lv : Int) - (xn : Int)) = (lv : Int) - (xn : Int) := by rw [IntKind.wrap_i64]; omega
  have HA := Lib.hid ha
  have HROW := Lib.hid hrow
  have HBV := Lib.hid hbv
  have HN := Lib.hid hn
  have HLV := Lib.hid hlv
  have HXN := Lib.hid hxn
  have HSS := Lib.hid hS
  have HO := Lib.hid ho
  clear ha hrow hbv hn hlv hxn hS ho
  go_wp2_with fail
  go_region
  obtain ⟨l2, hl2⟩ : ∃ l2 : Nat, l2 = lv - xn := ⟨_, rfl⟩
  have hle2 : (lv : Int) - (xn : Int) = (l2 : Int) := by omega
  rw [hle2]
  have HL2 : Hid (l2 = s.live - x.n) := by show _ = _; rw [hl2, HLV.out, HXN.out]
  obtain ⟨W2, hW2⟩ : ∃ W2, W2 = (w1.setCell ⟨p, 6, none⟩ (.int .i64 (l2 : Int))).drew := ⟨_, rfl⟩
  rw [← hW2]
  have hne := HA.out.ne
  have hgb : bv.ownBlock = some g := by rw [HBV.out]; rfl
  have hgp := (hne.2.2.1 g hgb).1
  have hgm := (hne.2.2.1 g hgb).2
  have hobj2 : W2.heap[p]? = some (.cells (arCells { s with live := l2 } cv bv mb) 63 (0, 0)) := by
    rw [hW2]; show (w1.setCell _ _).heap[p]? = _
    rw [obj_put HA.out.obj]; simp [arCells]
  have ho12 : Oth [p] w1 W2 := by rw [hW2]; exact ((Oth.refl _ _).setCell (.inl (by simp)) _).drew
  have hrow2 : Row 45 3 g n cap (bcs s.L) W2 := HROW.out.oth ho12 (by simpa using hgp)
  obtain ⟨m, hm⟩ : ∃ m, n = j + 1 + m := ⟨n - j - 1, by omega⟩
  have HDEL := Lib.hid (delete_ent g n cap j m (bcs s.L) W2 hrow2 (bcs_one _) hm (by rw [HN.out]; exact HG.out.cnt))
  have d2 : W2.cell? ⟨p, 2, none⟩ = some (.slice (some ⟨g, 0, none⟩) n cap) := by rw [← HBV.out]; exact obj_cell hobj2 rfl
  have HRD := Lib.hid (row_del hrow2 hm (.int .i64 0) (.int .i64 0) (.int .i64 0))
  have HOBJ2 := Lib.hid hobj2
  have HO12 := Lib.hid ho12
  have HNE := Lib.hid hne
  have HGB := Lib.hid hgb
  have HM := Lib.hid hm
  clear hobj2 ho12 hrow2 hW2 hl2 hne hgb c2 c6 f6 q3 hle2 hm t3
  have t4 : IntKind.i64.wrap ((j : Int) + 1) = (j : Int) + 1 := by rw [IntKind.wrap_i64]; omega
  go_wp2_with fail
  refine HDEL.out.mono ?_
  rintro e w3 ⟨rfl, hw3⟩
  rw [← hw3] at HRD
  have ho23 : Oth [g] W2 w3 := by rw [hw3]; exact ((((Oth.refl [g] W2).drew).setCells (.inl (by simp)) _ _).setCells (.inl (by simp)) _ _)
  have hobj3 := ho23.heap HOBJ2.out (by simpa using Ne.symm hgp)
  have e2 : w3.cell? ⟨p, 2, none⟩ = some (.slice (some ⟨g, 0, none⟩) n cap) := by rw [← HBV.out]; exact obj_cell hobj3 rfl
  have ef2 := obj_free hobj3 2
  obtain ⟨W4, hW4⟩ : ∃ W4, W4 = w3.setCell ⟨p, 2, none⟩ (.slice (some ⟨g, 0, none⟩) (j + m) cap) := ⟨_, rfl⟩
  have hobj4 : W4.heap[p]? = some (.cells (arCells { s with live := l2 } cv (.slice (some ⟨g, 0, none⟩) (j + m) cap) mb) 63 (0, 0)) := by
    rw [hW4, obj_put hobj3]; simp [arCells]
  have ho34 : Oth [p] w3 W4 := by rw [hW4]; exact (Oth.refl _ _).setCell (.inl (by simp)) _
  have v3 : W4.cell? ⟨p, 3, none⟩ = some (.map (some mb)) := obj_cell hobj4 rfl
  have hmap4 : MapI mb s.L W4 := ((HA.out.map.oth HO12.out (by simpa using HNE.out.1)).oth ho23 (by simpa using Ne.symm hgm)).oth ho34 (by simpa using HNE.out.1)
  obtain ⟨D, hown, hmd⟩ := hmap4
  have hxb := HG.out.blk x (List.mem_of_getElem? HX.out)
  have hnx := HG.out.next
  have HKEY : Hid (keyOf Try.prog 3 (.int .i64 (k : Int)) = some (.int .i64 (k : Int))) := Maps.keyOf_int_mk Try.underlying3 (a := (k : Int)) (wf63 (by omega) (by have := HK.out; omega))
  have HOWN := Lib.hid hown
  have HMD := Lib.hid hmd
  have HO23 := Lib.hid ho23
  have HO34 := Lib.hid ho34
  have HOBJ4 := Lib.hid hobj4
  have HW4 := Lib.hid hW4
  clear hw3 hobj3 hobj4 ho23 ho34 hown hmd hxb hnx HDEL
  rw [hW4] at HOWN v3
  clear hW4
  obtain ⟨pk, hpk⟩ : ∃ a, a = s.packed := ⟨_, rfl⟩
  have HPK := Lib.hid hpk
  have hpk1 : pk ≤ 1000 := by rw [hpk]; have := HG.out.packed; have := HG.out.cnt; omega
  have HD5 : Hid (∀ w5, (w3.setCell ⟨p, 2, none⟩ (.slice (some ⟨g, 0, none⟩) (j + m) cap)).mapTurned w5 mb → Oth [mb] W4 w5 ∧ w5.heap[p]? = some (.cells (arCells { s with live := l2 } cv (.slice (some ⟨g, 0, none⟩) (j + m) cap) mb) 63 (0, 0)) ∧ w5.cell? ⟨p, 4, none⟩ = some (.int .i64 pk) ∧ w5.frozen? ⟨p, 4, none⟩ = false) := by
    intro w5 ht
    rw [← HW4.out] at ht
    have ho45 : Oth [mb] W4 w5 := (Oth.refl [mb] W4).grown ht.grown (fun k hk => by cases hk; exact .inl (by simp))
    have hobj5 := ho45.heap HOBJ4.out (by simpa using Ne.symm HNE.out.1)
    exact ⟨ho45, hobj5, by rw [HPK.out]; exact obj_cell hobj5 rfl, obj_free hobj5 4⟩
  clear hpk
  go_wp2_with (first | (at_delete; refine wpList_delete_own _ rfl _ _ 60 3 rfl 3 law3 Try.underlying60 _ mb _ D rfl HOWN.out _ _ rfl HKEY.out ?_; intro w5 hown5 hturn5; obtain ⟨ho45, hobj5, u4, uf4⟩ := HD5.out w5 hturn5; have HOWN5 := Lib.hid hown5; have HO45 := Lib.hid ho45; have HOBJ5 := Lib.hid hobj5; clear hown5 hturn5 ho45 hobj5))
  all_goals
    have hfin : ∀ q : Nat, q = min s.packed j → Ar p S (freed s j x) (w5.setCell ⟨p, 4, none⟩ (.int .i64 (q : Int))) ∧ Oth S w (w5.setCell ⟨p, 4, none⟩ (.int .i64 (q : Int))) := by
      intro q hq
      have o56 : Oth [p] w5 (w5.setCell ⟨p, 4, none⟩ (.int .i64 (q : Int))) := (Oth.refl _ _).setCell (.inl (by simp)) _
      have hlen : (freed s j x).L.length = j + m := by have := HM.out; have := HN.out; simp [freed]; omega
      have hcvp : ∀ k, cv.ownBlock = some k → k ∉ [p] := fun k hk e => (HNE.out.2.1 k hk).1 (by simpa using e)
      have hcvm : ∀ k, cv.ownBlock = some k → k ∉ [mb] := fun k hk e => (HNE.out.2.1 k hk).2 (by simpa using e)
      have hcvg : ∀ k, cv.ownBlock = some k → k ∉ [g] := fun k hk e => HNE.out.2.2.2 k hk (by rw [HGB.out]; simp at e; rw [e])
      refine ⟨⟨cv, .slice (some ⟨g, 0, none⟩) (j + m) cap, mb, cs, ?_, ?_, ?_, ?_, ?_, ?_, ?_⟩, ?_⟩
      · rw [HSS.out]; unfold own4; rw [HGB.out]; rfl
      · rw [obj_put HOBJ5.out]; simp [arCells, freed, hq, HL2.out]
      · exact owns_oth (owns_oth (owns_oth (owns_oth (owns_oth HA.out.cells HO12.out hcvp) HO23.out hcvg) HO34.out hcvp) HO45.out hcvm) o56 hcvp
      · rw [hlen]
        have := ((HRD.out.oth HO34.out (by simpa using hgp)).oth HO45.out (by simpa using hgm)).oth o56 (by simpa using hgp)
        rw [bcs_del] at this
        exact this.owns
      · refine MapI.oth (mapI_of HOWN5.out (MD.del HMD.out k ⟨x, List.mem_of_getElem? HX.out, HK.out.symm⟩ ?_ ?_)) o56 (by simpa using HNE.out.1)
        · rw [hlen]; have := HM.out; have := HN.out; omega
        · exact fun b => by rw [HK.out]; exact mem_del HG.out.hnd HX.out b
      · have := HA.out.apart; rw [HGB.out] at this; exact this
      · intro b hb
        refine HA.out.data b ?_
        exact ((mem_del HG.out.hnd HX.out b).1 hb).2
      · have hpS : p ∈ S := by rw [HSS.out]; simp [own4]
        have hmS : mb ∈ S := by rw [HSS.out]; simp [own4]
        have hgS : g ∈ S := by rw [HSS.out]; simp [own4, HGB.out]
        have r1 : Oth S w W2 := (HO.out.mono (S' := S) (by simp)).trans HO12.out (fun k hk => by simp at hk; subst hk; exact .inl hpS)
        have r2 := r1.trans HO23.out (fun k hk => by simp at hk; subst hk; exact .inl hgS)
        have r3 := r2.trans HO34.out (fun k hk => by simp at hk; subst hk; exact .inl hpS)
        have r4 := r3.trans HO45.out (fun k hk => by simp at hk; subst hk; exact .inl hmS)
        exact r4.trans o56 (fun k hk => by simp at hk; subst hk; exact .inl hpS)
    go_ret
    refine ⟨rfl, hfin _ ?_⟩
    rw [← HPK.out]
    omega
end Go.Proofs.Ythllilkafdgheaa
