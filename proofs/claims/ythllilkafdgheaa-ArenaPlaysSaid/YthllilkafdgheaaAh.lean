/- The walk of compact: all blocks one directly after the other. Condition: small numbers, the blocks in order. -/
import Derived.Test.YthllilkafdgheaaAg
namespace Go.Proofs.Ythllilkafdgheaa
open Go.RowKit
set_option linter.unusedVariables false
set_option linter.unusedSimpArgs false

theorem Try.info59 : (Try.prog.info? 59).map (fun i => (i.zero, i.size, i.bytes)) = some (some (.int .i64 0), 1, 8) := by kernel_rfl

/-- What is asked of an arena's blocks. -/
structure Good (s : St) : Prop where
  srt : Srt s.L
  blk : ∀ b, b ∈ s.L → 1 ≤ b.n ∧ b.f + b.n ≤ s.high ∧ b.d.length = b.n ∧ 1 ≤ b.h ∧ b.h ≤ s.next
  hnd : s.L.Pairwise (fun a b => a.h ≠ b.h)
  high : s.high ≤ s.cap
  cap : s.cap ≤ 16777216
  cntn : s.L.length ≤ s.next
  nxt : s.next ≤ 1000
  packed : s.packed ≤ s.L.length
  live : s.live = sumN s.L
  peak : s.live ≤ s.peak ∧ s.peak ≤ s.cap
  tight : ∀ j x, j < s.packed → s.L[j]? = some x → x.f = E s.L j
  mv : s.moves ≤ s.next
theorem Good.cnt {s : St} (h : Good s) : s.L.length ≤ 1000 := Nat.le_trans h.cntn h.nxt
theorem Good.next {s : St} (h : Good s) : s.next ≤ 100000 := Nat.le_trans h.nxt (by omega)
theorem Good.sm {s : St} (h : Good s) : Sm s := by
  refine ⟨h.cap, h.cnt, fun b hb => ?_, h.packed⟩
  have h1 := h.blk b hb
  have := h.high
  have := h.cap
  have := h.next
  omega

set_option maxHeartbeats 4000000 in
set_option maxRecDepth 100000 in
theorem compact_any (p : Nat) (S : List Nat) (s : St) (w : World) (h : Ar p S s w) (hg : Good s) :
    Calls Try.prog 27 #[.pointer (some ⟨p, 0, none⟩)] w fun e w' => e = .returned (.tuple #[]) ∧ Ar p S { s with L := comp 0 s.L, packed := s.L.length, moves := s.moves + 1 } w' ∧ Oth S w w' := by
  have hmv : s.moves ≤ 100000 := by have := hg.mv; have := hg.nxt; omega
  obtain ⟨i0, hi0, hz0, hzs, hzb⟩ := info_parts Try.info59
  have hsz : (Try.prog.info? 59).map (·.size) = some 1 := by rw [hi0]; simp [hzs]
  obtain ⟨cv, bv, mb, cs, hS, ha⟩ := h
  obtain ⟨b, cap, rfl, hc⟩ := owns_blocks ha.blocks
  have HA := Lib.hid ha
  have HSS := Lib.hid hS
  have HG := Lib.hid hg
  have c2 : w.cell? ⟨p, 2, none⟩ = some (.slice b s.L.length cap) := ha.cell rfl
  obtain ⟨n, hn⟩ : ∃ n, n = s.L.length := ⟨_, rfl⟩
  have HN := Lib.hid hn
  have hn1 : n ≤ 1000 := by rw [hn]; exact hg.cnt
  rw [← hn] at c2
  clear hS ha hc hn hg
  go_enter Try.func27, Try.ntmps27
  go_wp2_with fail
  go_loopw [2, 10] (fun t q wr => ∃ i : Nat, i ≤ n ∧ t = .int .i64 (sumN (s.L.take i)) ∧ q = .int .i64 i ∧ Hid (∃ cs', Arp p { s with L := mid s.L i } cv (.slice b s.L.length cap) mb cs' wr) ∧ Oth S w wr) (fun _ q _ => (n - intOf q).toNat)
  case atStart => exact ⟨0, by omega, by simp [sumN], rfl, ⟨cs, by rw [mid_zero]; exact HA.out⟩, Oth.refl _ _⟩
  case round =>
    obtain ⟨i, hin, rfl, rfl, hai, ho⟩ := hrel
    obtain ⟨cs', ha⟩ := hai.out
    by_cases hlt : i < n
    · have t1 : (i : Int) < (n : Int) := by omega
      obtain ⟨x, hx⟩ : ∃ x, s.L[i]? = some x := ⟨_, List.getElem?_eq_getElem (by have := HN.out; omega)⟩
      have hxm := mid_at hx
      have hxg := HG.out.blk x (List.mem_of_getElem? hx)
      have hto := sum_le_from s.L 0 HG.out.srt (fun _ _ => Nat.zero_le _) i x hx
      have hbl := ha.blocks
      have hml : (mid s.L i).length = n := by rw [mid_length]; exact HN.out.symm
      have hbr : ∃ g, b = some ⟨g, 0, none⟩ ∧ Row 45 3 g n cap (bcs (mid s.L i)) wr := by
        obtain ⟨g, cap', he, _, hr⟩ := row_of_owns hbl (by simp only; rw [hml]; omega)
        injection he with e1 e2 e3
        subst e3
        simp only at hr
        rw [hml] at hr
        exact ⟨g, e1, hr⟩
      obtain ⟨g, rfl, hrow⟩ := hbr
      have e1 : wr.cell? ⟨g, i * 3, none⟩ = some (.int .i64 x.h) := hrow.cell (bcs_get _ i x hxm).1
      have e2 : wr.cell? ⟨g, i * 3 + 1, none⟩ = some (.int .i64 x.f) := hrow.cell (bcs_get _ i x hxm).2.1
      have e3 : wr.cell? ⟨g, i * 3 + 2, none⟩ = some (.int .i64 x.n) := hrow.cell (bcs_get _ i x hxm).2.2
      obtain ⟨cb, ccap, hcv, _, hcr⟩ := row_of_owns ha.cells (by simp only; omega)
      have hcl := hcr.cap_le
      have hcsl : cs'.length = s.high := by have := hcr.len; simpa using this
      simp only at hcr hcl
      have c1 : wr.cell? ⟨p, 1, none⟩ = some (.slice (some ⟨cb, 0, none⟩) s.high ccap) := by rw [← hcv]; exact ha.cell rfl
      have c22 : wr.cell? ⟨p, 2, none⟩ = some (.slice (some ⟨g, 0, none⟩) n cap) := by rw [HN.out]; exact ha.cell rfl
      have c3 : wr.cell? ⟨p, 3, none⟩ = some (.map (some mb)) := ha.cell rfl
      obtain ⟨xf, hxf⟩ : ∃ a, a = x.f := ⟨_, rfl⟩
      obtain ⟨xn, hxn⟩ : ∃ a, a = x.n := ⟨_, rfl⟩
      obtain ⟨xh, hxh⟩ : ∃ a, a = x.h := ⟨_, rfl⟩
      obtain ⟨to, hto'⟩ : ∃ a, a = sumN (s.L.take i) := ⟨_, rfl⟩
      obtain ⟨hi, hhi⟩ : ∃ a, a = s.high := ⟨_, rfl⟩
      rw [← hxf] at e2
      rw [← hxn] at e3
      rw [← hxh] at e1
      rw [← hhi] at c1
      rw [← hto']
      have b1 : 1 ≤ xn := by rw [hxn]; exact hxg.1
      have b2 : xf + xn ≤ hi := by rw [hxf, hxn, hhi]; exact hxg.2.1
      have b3 : to ≤ xf := by rw [hto', hxf]; omega
      have b4 : hi ≤ 16777216 := by rw [hhi]; have := HG.out.high; have := HG.out.cap; omega
      have b5 : hi ≤ ccap := by rw [hhi]; exact hcl.1
      have b6 : ccap ≤ 9223372036854775807 := by have := hcl.2; unfold maxLen at this; omega
      obtain ⟨vs, hvs⟩ : ∃ vs, vs = ((cs'.drop xf).take xn).map (Value.int .i64) := ⟨_, rfl⟩
      have hvl : vs.length = xn := by rw [hvs]; simp; omega
      have hcp : ∀ ty dc sc, (Builtin.copy_ #[23, 23] ty #[.slice (some ⟨cb, to, none⟩) xn dc, .slice (some ⟨cb, xf, none⟩) xn sc]).run Try.prog wr.drew = .ok (goInt (Nat.min xn xn)) (wr.drew.setCells cb to vs) := fun ty dc sc =>
        run_copy_cellsZ wr.drew _ _ ty 59 1 cb to xn dc ⟨cb, xf, none⟩ xn sc vs Try.underlying23 hsz (by rw [hvl]; simp)
          (fun j v hj => by
            rw [Addr.add_lit]
            refine hcr.drew.cell ?_
            rw [hvs, List.getElem?_map, List.getElem?_take] at hj
            split at hj
            · rw [List.getElem?_map, ← List.getElem?_drop]; exact hj
            · cases hj)
          (fun j hj => hcr.drew.there (by rw [hhi] at *; omega)) (fun j hj => hcr.drew.free _) (fun v hv => by rw [hvs] at hv; obtain ⟨z, _, rfl⟩ := List.mem_map.1 hv; rfl)
      obtain ⟨W1, hW1⟩ : ∃ W1, W1 = wr.drew.setCells cb to vs := ⟨_, rfl⟩
      rw [← hW1] at hcp
      obtain ⟨m1, m2, m3, m4⟩ := ha.ne
      have hcvb : cv.ownBlock = some cb := by rw [hcv]; rfl
      have hcbp := m2 cb hcvb
      have hgb := m3 g rfl
      have hcg : cb ≠ g := fun e => m4 cb hcvb (by rw [e]; rfl)
      have ho1 : Oth [cb] wr W1 := by rw [hW1]; exact ((Oth.refl _ _).drew).setCells (.inl (by simp)) _ _
      have q1 := ho1.cell c1 (by simpa using Ne.symm hcbp.1)
      have q2 := ho1.cell e2 (by simpa using Ne.symm hcg)
      have q3 := ho1.cell e3 (by simpa using Ne.symm hcg)
      have q0 := ho1.cell e1 (by simpa using Ne.symm hcg)
      have qm := ho1.cell c3 (by simpa using Ne.symm hcbp.1)
      have hrow1 := hrow.oth ho1 (by simpa using Ne.symm hcg)
      have qf := hrow1.free (i * 3 + 1)
      have hrow2 := hrow1.set (i * 3 + 1) (.int .i64 (to : Int))
      have hms : bcs (mid s.L (i + 1)) = (bcs (mid s.L i)).set (i * 3 + 1) (.int .i64 (to : Int)) := by rw [mid_step hx, hto', bcs_set _ _ x _ hxm]
      rw [← hms] at hrow2
      obtain ⟨W2, hW2⟩ : ∃ W2, W2 = W1.setCell ⟨g, i * 3 + 1, none⟩ (.int .i64 (to : Int)) := ⟨_, rfl⟩
      have ho2 : Oth [g] W1 W2 := by rw [hW2]; exact (Oth.refl _ _).setCell (.inl (by simp)) _
      have ho12 : Oth [cb, g] wr W2 := (ho1.mono (by simp)).trans (ho2.mono (S' := [cb, g]) (by simp)) (Fr.refl _ _)
      rw [← hW2] at hrow2
      have hcr1 : Row 59 1 cb s.high ccap (splice (cs'.map (Value.int .i64)) to vs) W1 := by rw [hW1]; exact row_splice hcr.drew (by rw [hvl]; omega)
      have hcr2 := hcr1.oth ho2 (by simpa using hcg)
      have hmap2 : MapI mb (mid s.L i) W2.drew := (ha.map.oth ho12 (by simp; exact ⟨Ne.symm hcbp.2, Ne.symm hgb.2⟩)).oth (S := []) ((Oth.refl _ _).drew) (by simp)
      have hxb := hxg.2.2.2.2
      have hnx := HG.out.next
      have hst : ∃ w3, (Instr.mapUpdate 60 (.map (some mb)) (.int .i64 (xh : Int)) (.int .i64 (to : Int))).run Try.prog W2.drew = .ok () w3 ∧ MapI mb (mid s.L (i + 1)) w3 ∧ Oth [mb] W2 w3 := by
        obtain ⟨D, hD, hMD⟩ := hmap2
        obtain ⟨w3, r1, r2, r3⟩ := hD.store law3 Try.underlying60 (by rw [mid_length]; have := HG.out.cnt; unfold maxLen; omega) (Maps.keyOf_int_mk Try.underlying3 (a := (xh : Int)) (wf63 (by omega) (by omega))) (plainElem_int Try.underlying3 (a := (to : Int)) (wf63 (by omega) (by omega)))
        refine ⟨w3, r1, mapI_of r2 ?_, ((Oth.refl [mb] W2).drew).grown r3.grown (fun k hk => by cases hk; exact .inl (by simp))⟩
        rw [mid_step hx, ← hto', hxh]
        exact hMD.move (hnd_of_map HG.out.hnd (mid_h _ _)) hxm to
      obtain ⟨w3, hrun3, hmap3, ho3⟩ := hst
      have HX := Lib.hid hx
      have HXG := Lib.hid hxg
      have HAI := Lib.hid ha
      have HCR := Lib.hid hcr
      have HROW := Lib.hid hrow
      have HCV := Lib.hid hcv
      have HVS := Lib.hid hvs
      have t2 : (to : Int) + (xn : Int) ≤ (ccap : Int) := by omega
      have t3 : (xf : Int) + (xn : Int) ≤ (ccap : Int) := by omega
      have t4 : ((to : Int) + (xn : Int)).toNat = to + xn := by omega
      have t5 : ((xf : Int) + (xn : Int)).toNat = xf + xn := by omega
      have t6 : (to : Int) ≤ (to : Int) + (xn : Int) := by omega
      have t7 : (xf : Int) ≤ (xf : Int) + (xn : Int) := by omega
      have t8 : ¬ (ccap = to) := by omega
      have t9 : ¬ (ccap = xf) := by omega
      have t10 : (0 : Int) ≤ (to : Int) + (xn : Int) := by omega
      have t11 : (0 : Int) ≤ (xf : Int) + (xn : Int) := by omega
      have t12 : to + xn ≤ ccap := by omega
      have t13 : xf + xn ≤ ccap := by omega
      have t14 : IntKind.i64.wrap ((to : Int) + (xn : Int)) = (to : Int) + (xn : Int) := by rw [IntKind.wrap_i64]; omega
      have t15 : IntKind.i64.wrap ((xf : Int) + (xn : Int)) = (xf : Int) + (xn : Int) := by rw [IntKind.wrap_i64]; omega
      have t16 : (to : Int) ≤ (ccap : Int) := by omega
      have t17 : (xf : Int) ≤ (ccap : Int) := by omega
      have t18 : to ≤ to + xn := by omega
      have t19 : xf ≤ xf + xn := by omega
      have t20 : to + xn - to = xn := by omega
      have t21 : xf + xn - xf = xn := by omega
      have HMAP3 := Lib.hid hmap3
      have HW2 := Lib.hid hW2
      have hx2 : (mid s.L (i + 1))[i]? = some { x with f := to } := by
        rw [mid_step hx, List.getElem?_set, if_pos rfl, if_pos (by rw [mid_length]; exact (List.getElem?_eq_some_iff.1 hx).1), ← hto']
      have r0 : W2.cell? ⟨g, i * 3, none⟩ = some (.int .i64 xh) := by rw [hxh]; exact hrow2.cell (bcs_get _ i _ hx2).1
      have r2 : W2.cell? ⟨g, i * 3 + 2, none⟩ = some (.int .i64 xn) := by rw [hxn]; exact hrow2.cell (bcs_get _ i _ hx2).2.2
      have r3 := ho2.cell qm (by simpa using Ne.symm hgb.1)
      have u0 := ho3.cell r0 (by simpa using hgb.2)
      have u2 := ho3.cell r2 (by simpa using hgb.2)
      have u3 := ho3.cell r3 (by simpa using Ne.symm m1)
      have ho23 : Oth S wr w3 := by
        rw [HSS.out]
        refine ((ho1.mono ?_).trans (ho2.mono (S' := own4 p cv (.slice (some ⟨g, 0, none⟩) s.L.length cap) mb) ?_) (Fr.refl _ _)).trans (ho3.mono (S' := own4 p cv (.slice (some ⟨g, 0, none⟩) s.L.length cap) mb) ?_) (Fr.refl _ _)
        · intro k hk; simp at hk; subst hk; simp [own4, hcvb]
        · intro k hk; simp at hk; subst hk; simp [own4, Value.ownBlock]
        · intro k hk; simp at hk; subst hk; simp [own4]
      have HFIN : Hid (∃ cs'', Arp p { s with L := mid s.L (i + 1) } cv (.slice (some ⟨g, 0, none⟩) s.L.length cap) mb cs'' w3) := by
        have hvsl : ((cs'.drop xf).take xn).length = xn := by simp; omega
        refine ⟨splice cs' to ((cs'.drop xf).take xn), ?_, ?_, ?_, hmap3, ha.apart, ?_⟩
        · exact ho3.heap (ho2.heap (ho1.heap ha.obj (by simpa using Ne.symm hcbp.1)) (by simpa using Ne.symm hgb.1)) (by simpa using Ne.symm m1)
        · rw [splice_map, ← hvs, hcv]
          exact (hcr2.oth ho3 (by simpa using hcbp.2)).owns
        · have hn2 : (mid s.L (i + 1)).length = s.L.length := mid_length _ _
          simp only
          rw [hn2, ← HN.out]
          exact (hrow2.oth ho3 (by simpa using hgb.2)).owns
        · intro y hy
          simp only at hy
          obtain ⟨j, hj⟩ := List.mem_iff_getElem?.1 hy
          have hjl : j < s.L.length := by have := (List.getElem?_eq_some_iff.1 hj).1; rw [mid_length] at this; exact this
          by_cases hji : j = i
          · subst hji
            rw [hx2] at hj; cases hj
            simp only
            rw [← hxn]
            have := splice_here (xs := cs') (o := to) (vs := (cs'.drop xf).take xn) (by omega)
            rw [hvsl] at this
            rw [this, hxf, hxn]
            exact ha.data x (List.mem_of_getElem? hxm)
          · rw [mid_step hx, List.getElem?_set, if_neg (Ne.symm hji)] at hj
            rw [splice_apart (by omega) ?_]
            · exact ha.data y (List.mem_of_getElem? hj)
            · rw [hvsl]
              rcases Nat.lt_or_ge j i with h1 | h1
              · left
                unfold mid at hj
                rw [List.getElem?_append_left (by simp [comp_length]; omega)] at hj
                have := (comp_mem _ _ _ (List.mem_of_getElem? hj)).2.1
                rw [hto']; omega
              · right
                unfold mid at hj
                rw [List.getElem?_append_right (by simp [comp_length]; omega), List.getElem?_drop] at hj
                have hlen : (comp 0 (s.L.take i)).length = i := by simp [comp_length]; omega
                rw [hlen, show i + (j - i) = j by omega] at hj
                obtain ⟨h3, h4⟩ := List.getElem?_eq_some_iff.1 hx
                obtain ⟨h5, h6⟩ := List.getElem?_eq_some_iff.1 hj
                have := List.pairwise_iff_getElem.1 HG.out.srt i j h3 h5 (by omega)
                rw [h4, h6] at this
                omega
      have HSU : Hid (sumN (s.L.take (i + 1)) = to + xn) := by show _ = _; rw [sumN_take_succ hx, hto', hxn]
      have HOO := Lib.hid (ho.trans ho23 (Fr.refl _ _))
      clear hx hxm hxg hbl hml hrow hcr hcv hvs ha hcl hxf hxn hxh hto' hhi hto hW1 hW2 hrow1 hrow2 hcr1 hcr2 hmap2 hmap3 hms m2 m3 m4 ho12 hx2 ho23
      go_wp2_with fail
      go_region_held3 (fun w' => w'.cell? ⟨p, 1, none⟩ = some (.slice (some ⟨cb, 0, none⟩) hi ccap) ∧ w'.cell? ⟨g, i * 3 + 1, none⟩ = some (.int .i64 xf) ∧ w'.cell? ⟨g, i * 3 + 2, none⟩ = some (.int .i64 xn)) (first | exact ⟨c1, e2, e3⟩ | exact ⟨q1, q2, q3⟩)
        (first | (refine step_copy_runI rfl _ _ 23 23 rfl _ _ (by simp [Act.eval, Act.put]) (by simp [Act.eval, Act.put]) (hcp _ _ _) ?_))
      go_wp2_with fail
      rw [← HW2.out]
      go_region_held3 (fun w' => w'.cell? ⟨p, 3, none⟩ = some (.map (some mb)) ∧ w'.cell? ⟨g, i * 3, none⟩ = some (.int .i64 xh)) (first | exact ⟨r3, r0⟩ | exact ⟨u3, u0⟩) (fail)
      go_wp2_with fail
      go_roundw
      case rel => exact ⟨i + 1, by omega, by rw [HSU.out]; go_num, by go_num, HFIN, HOO.out⟩
      case measure => simp [intOf]; omega
    · have hin2 : i = n := by omega
      have t1 : ¬ (i : Int) < (n : Int) := by omega
      have c22 : wr.cell? ⟨p, 2, none⟩ = some (.slice b n cap) := by rw [HN.out]; exact ha.cell rfl
      have c4 : wr.cell? ⟨p, 4, none⟩ = some (.int .i64 s.packed) := ha.cell rfl
      have c9 : wr.cell? ⟨p, 9, none⟩ = some (.int .i64 s.moves) := ha.cell rfl
      have f4 := ha.free 4
      have f9 := ha.free 9
      have hmid : mid s.L i = comp 0 s.L := by rw [hin2, HN.out, mid_all]
      rw [hmid] at ha
      have ha2 := ha.put (s' := { s with L := comp 0 s.L, packed := s.L.length }) 4 (.int .i64 (n : Int)) (by rw [HN.out]; simp [arCells]) rfl rfl
      have ha3 := ha2.put (s' := { s with L := comp 0 s.L, packed := s.L.length, moves := s.moves + 1 }) 9 (.int .i64 ((s.moves : Int) + 1)) (by simp [arCells]) rfl rfl
      have HFIN : Hid (Ar p S { s with L := comp 0 s.L, packed := s.L.length, moves := s.moves + 1 } ((wr.setCell ⟨p, 4, none⟩ (.int .i64 (n : Int))).setCell ⟨p, 9, none⟩ (.int .i64 ((s.moves : Int) + 1)))) := ⟨_, _, _, _, HSS.out, ha3⟩
      have HOO : Hid (Oth S w ((wr.setCell ⟨p, 4, none⟩ (.int .i64 (n : Int))).setCell ⟨p, 9, none⟩ (.int .i64 ((s.moves : Int) + 1)))) := (ho.setCell (.inl (by rw [HSS.out]; simp [own4])) _).setCell (.inl (by rw [HSS.out]; simp [own4])) _
      obtain ⟨mv, hmv'⟩ : ∃ a, a = s.moves := ⟨_, rfl⟩
      rw [← hmv'] at hmv c9 HFIN HOO
      have HMV := Lib.hid hmv'
      clear hmid ha ha2 ha3 hmv' hai hin2
      go_wp2_with fail
      go_end0
      rw [← HMV.out]
      exact ⟨rfl, HFIN.out, HOO.out⟩
end Go.Proofs.Ythllilkafdgheaa
