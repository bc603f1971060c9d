/- The walk of Put. Condition: the invariant. -/
import Derived.Test.YthllilkafdgheaaAp
namespace Go.Proofs.Ythllilkafdgheaa
open Go.RowKit
set_option linter.unusedVariables false
set_option linter.unusedSimpArgs false

theorem Put_miss (p : Nat) (S : List Nat) (s : St) (k : Int) (v : Value) (w : World) (h : Ar p S s w) (hk : (Lit.int .i64 k).wf = true) (hx : ∀ b, b ∈ s.L → (b.h : Int) ≠ k) :
    Calls Try.prog 14 #[.pointer (some ⟨p, 0, none⟩), .int .i64 k, v] w fun e w' => e = .returned (.int .i64 14) ∧ Oth [] w w' := by
  have HI := Lib.hid (fun w' (ho : Oth [] w w') => Find_miss p S s k w' (h.oth ho (by simp)) hk hx)
  clear h hx hk
  go_enter Try.func14, Try.ntmps14
  go_wp2_with fail
  refine (HI.out w (Oth.refl _ _)).mono ?_
  rintro e w1 ⟨rfl, ho⟩
  go_wp2_with fail
  go_ret
  exact ⟨rfl, ho.alloc _⟩

set_option maxHeartbeats 4000000 in
theorem Put_shape (p : Nat) (S : List Nat) (s : St) (j : Nat) (x : Blk) (b : Option Addr) (m c : Nat) (w : World) (h : Ar p S s w) (hg : Good s) (hx : s.L[j]? = some x) (hm : m ≠ x.n) (hm1 : m ≤ 1000) :
    Calls Try.prog 14 #[.pointer (some ⟨p, 0, none⟩), .int .i64 x.h, .slice b m c] w fun e w' => e = .returned (.int .i64 20) ∧ Oth [] w w' := by
  have HI := Lib.hid (Find_hit p S s j x w h hg hx)
  obtain ⟨k, hk⟩ : ∃ a, a = x.h := ⟨_, rfl⟩
  obtain ⟨xf, hxf⟩ : ∃ a, a = x.f := ⟨_, rfl⟩
  obtain ⟨xn, hxn⟩ : ∃ a, a = x.n := ⟨_, rfl⟩
  have t1 : ((m : Int) == (xn : Int)) = false := by simp; omega
  have t2 : ¬ m = xn := by omega
  unfold bval at HI
  rw [← hk, ← hxf, ← hxn] at HI
  rw [← hk]
  clear h hx hg hk hxf hxn hm
  go_enter Try.func14, Try.ntmps14
  go_wp2_with fail
  refine HI.out.mono ?_
  rintro e w1 ⟨rfl, ho⟩
  go_wp2_with fail
  go_ret
  exact ⟨rfl, ho.alloc _⟩

theorem list_set_same {α : Type} {L : List α} {j : Nat} {x : α} (h : L[j]? = some x) : L.set j x = L := by
  apply List.ext_getElem?
  intro i
  rw [List.getElem?_set]
  split
  · rename_i hij; subst hij
    split
    · exact h.symm
    · rename_i hl; exact absurd (List.getElem?_eq_some_iff.1 h).1 hl
  · rfl
theorem bcs_wrote : ∀ (L : List Blk) (j : Nat) (x : Blk) (ds : List Int), L[j]? = some x → bcs (L.set j { x with d := ds }) = bcs L
  | y :: r, 0, x, ds, h => by simp at h; subst h; simp [bcs]
  | y :: r, j + 1, x, ds, h => by simp only [List.set_cons_succ, bcs]; rw [bcs_wrote r j x ds (by simpa using h)]
theorem mem_wrote {L : List Blk} {j : Nat} {x b : Blk} {ds : List Int} (hb : b ∈ L.set j { x with d := ds }) : b = { x with d := ds } ∨ b ∈ L := by
  rcases List.mem_or_eq_of_mem_set hb with h | h
  · exact .inr h
  · exact .inl h
theorem md_wrote {D : DataW Unit} {L : List Blk} {j : Nat} {x : Blk} {ds : List Int} (h : MD D L) (hx : L[j]? = some x) : MD D (L.set j { x with d := ds }) := by
  refine ⟨h.tidy, by rw [h.size]; simp, fun b hb => ?_, fun k hk => h.no k (fun b hb => ?_)⟩
  · rcases mem_wrote hb with rfl | hb
    · exact h.yes x (List.mem_of_getElem? hx)
    · exact h.yes b hb
  · obtain ⟨i, hi⟩ := List.mem_iff_getElem?.1 hb
    have hjl := (List.getElem?_eq_some_iff.1 hx).1
    by_cases hij : j = i
    · subst hij
      rw [hx] at hi; cases hi
      exact hk { x with d := ds } (List.mem_iff_getElem?.2 ⟨j, by rw [List.getElem?_set, if_pos rfl, if_pos hjl]⟩)
    · exact hk b (List.mem_iff_getElem?.2 ⟨i, by rw [List.getElem?_set, if_neg hij]; exact hi⟩)

/-- The arena where block number j has these cells. -/
def wrote (s : St) (j : Nat) (x : Blk) (ds : List Int) : St := { s with L := s.L.set j { x with d := ds } }

set_option maxHeartbeats 4000000 in
theorem Put_hit (p : Nat) (S : List Nat) (s : St) (j : Nat) (x : Blk) (ad : Addr) (m c : Nat) (ds : List Int) (w : World) (h : Ar p S s w) (hg : Good s) (hx : s.L[j]? = some x) (hm : m = x.n) (hds : ds.length = m) (hrd : ∀ i v, ds[i]? = some v → w.cell? (ad.add i) = some (.int .i64 v)) (had : ad.block ∉ S) :
    Calls Try.prog 14 #[.pointer (some ⟨p, 0, none⟩), .int .i64 x.h, .slice (some ad) m c] w fun e w' => e = .returned (.int .i64 0) ∧ Ar p S (wrote s j x ds) w' ∧ Oth S w w' := by
  obtain ⟨i0, hi0, hz0, hzs, hzb⟩ := info_parts Try.info59
  have hsz : (Try.prog.info? 59).map (·.size) = some 1 := by rw [hi0]; simp [hzs]
  have HI := Lib.hid (Find_hit p S s j x w h hg hx)
  have HH := Lib.hid h
  have HX := Lib.hid hx
  have HG := Lib.hid hg
  have hxb := hg.blk x (List.mem_of_getElem? hx)
  have hhi := hg.high
  have hcp := hg.cap
  obtain ⟨k, hk⟩ : ∃ a, a = x.h := ⟨_, rfl⟩
  obtain ⟨xf, hxf⟩ : ∃ a, a = x.f := ⟨_, rfl⟩
  obtain ⟨H, hH⟩ : ∃ a, a = s.high := ⟨_, rfl⟩
  have t0 : 1 ≤ m := by omega
  have tf : xf + m ≤ H := by omega
  have tH : H ≤ 16777216 := by omega
  have t1 : ((m : Int) == (m : Int)) = true := by simp
  unfold bval at HI
  rw [← hk, ← hxf, ← hm] at HI
  rw [← hk]
  have HK := Lib.hid hk
  have HXF := Lib.hid hxf
  have HXM := Lib.hid hm
  have HHH := Lib.hid hH
  have HRD := Lib.hid hrd
  clear h hx hg hk hxf hm hH hxb hhi hcp hrd
  go_enter Try.func14, Try.ntmps14
  go_wp2_with fail
  refine HI.out.mono ?_
  rintro e w1 ⟨rfl, ho⟩
  obtain ⟨W2, hW2⟩ : ∃ W2, W2 = w1.alloc (.cells #[.int .i64 k, .int .i64 xf, .int .i64 m] 45) := ⟨_, rfl⟩
  have ho2 : Oth [] w W2 := by rw [hW2]; exact ho.alloc _
  obtain ⟨cv, bv, mb, cs, hS, ha⟩ := HH.out.oth ho2 (by simp)
  have hce := ha.cells
  rw [← HHH.out] at hce
  obtain ⟨g, cap, hcv, _, hrow⟩ := row_of_owns hce (by omega)
  have c1 : W2.cell? ⟨p, 1, none⟩ = some (.slice (some ⟨g, 0, none⟩) H cap) := by rw [← hcv]; exact ha.cell rfl
  have c1' : (w1.alloc (.cells #[.int .i64 k, .int .i64 xf, .int .i64 m] 45)).cell? ⟨p, 1, none⟩ = some (.slice (some ⟨g, 0, none⟩) H cap) := by rw [← hW2]; exact c1
  have hcc := hrow.cap_le
  have b5 : xf + m ≤ cap := by omega
  have b6 : cap ≤ 9223372036854775807 := by have := hcc.2; unfold maxLen at this; omega
  have b7 : (xf : Int) + (m : Int) ≤ (cap : Int) := by omega
  have b8 : ¬ (cap = xf) := by omega
  have b9 : xf + m - xf = m := by omega
  have b10 : (xf : Int) ≤ (xf : Int) + (m : Int) := by omega
  have b12 : ((xf : Int) + (m : Int)).toNat - xf = m := by omega
  have b11 : (xf : Int) ≤ (cap : Int) := by omega
  have t7 : IntKind.i64.wrap ((xf : Int) + (m : Int)) = (xf : Int) + (m : Int) := by rw [IntKind.wrap_i64]; omega
  have hp1 : p < w1.heap.size := (HH.out.oth ho (by simp)).lt p (by rw [hS]; simp [own4])
  have HA := Lib.hid ha
  have HROW := Lib.hid hrow
  have HCV := Lib.hid hcv
  have HSS := Lib.hid hS
  have HO2 := Lib.hid ho2
  have HW2 := Lib.hid hW2
  clear ha hrow hcv hS ho2 hce hcc hW2 c1
  have hob : W2.heap[w1.heap.size]? = some (.cells #[.int .i64 k, .int .i64 xf, .int .i64 m] 45 (0, 0)) := by rw [HW2.out]; exact heap_alloc_new _ _
  have hne := HA.out.ne
  have hgb : cv.ownBlock = some g := by rw [HCV.out]; rfl
  have hgp := (hne.2.1 g hgb).1
  have hgm := (hne.2.1 g hgb).2
  have hgw : g < w1.heap.size := by
    obtain ⟨_, _, _, _, hS', ha'⟩ := HH.out.oth ho (by simp)
    rw [HSS.out] at hS'
    exact (HH.out.oth ho (by simp)).lt g (by rw [HSS.out]; simp [own4, hgb])
  have s1 : W2.cell? ⟨p, 1, none⟩ = some (.slice (some ⟨g, 0, none⟩) H cap) := by rw [HW2.out]; exact c1'
  have s2 : W2.cell? ⟨w1.heap.size, 1, none⟩ = some (.int .i64 xf) := obj_cell hob rfl
  have s3 : W2.cell? ⟨w1.heap.size, 2, none⟩ = some (.int .i64 m) := obj_cell hob rfl
  have hcp : ∀ ty dc, (Builtin.copy_ #[23, 23] ty #[.slice (some ⟨g, xf, none⟩) m dc, .slice (some ad) m c]).run Try.prog W2.drew = .ok (goInt (Nat.min m m)) (W2.drew.setCells g xf (ds.map (Value.int .i64))) := fun ty dc =>
    run_copy_cellsZ W2.drew _ _ ty 59 1 g xf m dc ad m c (ds.map (Value.int .i64)) Try.underlying23 hsz (by simp [Nat.min_def, hds]) (fun i v hv => by
        rw [List.getElem?_map] at hv
        cases hq : ds[i]? with
        | none => rw [hq] at hv; cases hv
        | some d =>
          rw [hq] at hv; cases hv
          exact HO2.out.cell (HRD.out i d hq) (by simp))
      (fun i hi => HROW.out.there (by simp [hds] at hi; omega)) (fun i _ => HROW.out.free _) (by simp [Value.oneCell'])
  obtain ⟨W3, hW3⟩ : ∃ W3, W3 = W2.drew.setCells g xf (ds.map (Value.int .i64)) := ⟨_, rfl⟩
  rw [← hW3] at hcp
  have ho23 : Oth [g] W2 W3 := by rw [hW3]; exact ((Oth.refl [g] W2).drew).setCells (.inl (by simp)) _ _
  have u1 := ho23.cell s1 (by simpa using Ne.symm hgp)
  have u2 := ho23.cell s2 (by simp; omega)
  have u3 := ho23.cell s3 (by simp; omega)
  have hdl : (ds.map (Value.int .i64)).length = m := by simpa using hds
  have HFIN : Hid (Ar p S (wrote s j x ds) W3 ∧ Oth S w W3) := by
    have hrs := row_splice (vs := ds.map (Value.int .i64)) (o := xf) HROW.out (by omega)
    have hr3 : Row 59 1 g H cap ((splice cs xf ds).map (Value.int .i64)) W3 := by
      rw [splice_map, hW3]
      exact (row_splice (vs := ds.map (Value.int .i64)) (o := xf) (HROW.out.oth (S := []) (Oth.refl _ _).drew (by simp)) (by omega))
    have hbvg : ∀ k, bv.ownBlock = some k → k ∉ [g] := fun k hk e => hne.2.2.2 g hgb (by simp at e; rw [← e]; exact hk)
    have hcsl : cs.length = H := by have := HROW.out.len; simpa using this
    have hmh : (s.L.set j { x with d := ds }).map Blk.h = s.L.map Blk.h := by
      rw [List.map_set]; exact list_set_same (by rw [List.getElem?_map, HX.out]; rfl)
    have hbcs : bcs (s.L.set j { x with d := ds }) = bcs s.L := bcs_wrote s.L j x ds HX.out
    refine ⟨⟨cv, bv, mb, splice cs xf ds, HSS.out, ?_, ?_, ?_, ?_, HA.out.apart, ?_⟩, ?_⟩
    · exact ho23.heap HA.out.obj (by simpa using Ne.symm hgp)
    · have : (wrote s j x ds).high = H := HHH.out.symm
      rw [this, HCV.out]; exact hr3.owns
    · have : (wrote s j x ds).L.length = s.L.length := by simp [wrote]
      rw [this]
      show W3.ownsRow 0 45 3 bv s.L.length (bcs (s.L.set j { x with d := ds }))
      rw [hbcs]
      exact owns_oth HA.out.blocks ho23 hbvg
    · obtain ⟨D, hD, hMD⟩ := HA.out.map.oth ho23 (by simpa using Ne.symm hgm)
      exact mapI_of hD (md_wrote hMD HX.out)
    · intro b hb
      obtain ⟨i, hi⟩ := List.mem_iff_getElem?.1 hb
      simp only [wrote, List.getElem?_set] at hi
      split at hi
      · split at hi
        · cases hi
          simp only
          have := splice_here (xs := cs) (o := xf) (vs := ds) (by omega)
          rw [← HXF.out, ← HXM.out, ← hds]; exact this
        · cases hi
      · rename_i hij
        have hd := HA.out.data b (List.mem_of_getElem? hi)
        rw [splice_apart (by omega) ?_]
        · exact hd
        · obtain ⟨a1, a2⟩ := List.getElem?_eq_some_iff.1 hi
          obtain ⟨a3, a4⟩ := List.getElem?_eq_some_iff.1 HX.out
          rcases Nat.lt_or_ge i j with h5 | h5
          · left
            have := List.pairwise_iff_getElem.1 HG.out.srt i j a1 a3 h5
            rw [a2, a4] at this; rw [HXF.out]; exact this
          · right
            have := List.pairwise_iff_getElem.1 HG.out.srt j i a3 a1 (by omega)
            rw [a2, a4] at this; rw [HXF.out, hds, HXM.out]; exact this
    · exact (HO2.out.mono (S' := S) (by simp)).trans ho23 (fun k hk => by simp at hk; subst hk; left; rw [HSS.out]; simp [own4, hgb])
  clear hW3 ho23 hob hne hgb hdl
  go_wp2_with fail
  rw [← HW2.out]
  go_region_held3 (fun w' => w'.cell? ⟨p, 1, none⟩ = some (.slice (some ⟨g, 0, none⟩) H cap) ∧ w'.cell? ⟨w1.heap.size, 1, none⟩ = some (.int .i64 xf) ∧ w'.cell? ⟨w1.heap.size, 2, none⟩ = some (.int .i64 m)) (first | exact ⟨s1, s2, s3⟩ | exact ⟨u1, u2, u3⟩)
    (first | (refine step_copy_runI rfl _ _ 23 23 rfl _ _ (by simp [Act.eval, Act.put]) (by simp [Act.eval, Act.put]) (hcp _ _) ?_))
  go_wp2_with fail
  go_ret
  exact ⟨rfl, HFIN.out⟩
end Go.Proofs.Ythllilkafdgheaa
