/- The walk of step at a Put. Condition: the arena and the reference are in one state. -/
import Derived.Test.YthllilkafdgheaaCie
namespace Go.Proofs.Ythllilkafdgheaa
open Go.RowKit
set_option linter.unusedVariables false
set_option linter.unusedSimpArgs false

set_option maxHeartbeats 8000000 in
set_option maxRecDepth 100000 in
theorem step_put {K : Nat → Obj → Prop} (w : World) (p : Nat) (s : St) (v : Value) (o : OpV) (W : World) (h : Both K w p s v W) (hnx : s.next < 1000) (hcp : s.cap ≤ 300) (hwf : (Lit.int .i64 o.n).wf = true) (hm : o.m ≤ 300) (hds : ReadsI o.b o.m o.ds w) (hk : o.k = 3) :
    Calls Try.prog 24 #[.pointer (some ⟨p, 0, none⟩), sval s v, .agg #[.int .i64 o.k, .int .i64 o.n, .slice o.b o.m o.c]] W fun e w' => Stepped K w p s e w' := by
  obtain ⟨base, n, cap, rfl⟩ : ∃ base n cap, v = .slice base n cap := by
    obtain ⟨B, R, h1, _⟩ := h.rf
    obtain ⟨b, c, he⟩ := h1.slice
    exact ⟨b, _, c, he⟩
  have HH := Lib.hid h
  have HDS := Lib.hid hds
  have HWF := Lib.hid hwf
  obtain ⟨ok, on, ob, om, oc, ods⟩ := o
  simp only at *
  unfold sval
  clear h hds hwf
  subst hk
  obtain ⟨i0, hi, hz0, hz1, hz2⟩ := info_parts Try.info77
  go_enter Try.func24, Try.ntmps24
  go_wp2_with fail
  obtain ⟨W1, hW1⟩ : ∃ W1, W1 = ((W.alloc (.cells #[.int .i64 s.cap, .int .i64 s.next, .int .i64 s.high, .int .i64 s.peak, .int .i64 s.moves, .slice base n cap] 55)).alloc (.cells #[.int .i64 3, .int .i64 on, .slice ob om oc] 31)).alloc (.cells #[.int .i64 0, .int .i64 0, .int .i64 0, .int .i64 0, .int .i64 0, .slice none 0 0] 55) := ⟨_, rfl⟩
  rw [← hW1]
  obtain ⟨B, R, hS0, hp⟩ := HH.out.start ⟨3, on, ob, om, oc, ods⟩ hW1
  obtain ⟨sb, hsb⟩ : ∃ sb, sb = W.heap.size := ⟨_, rfl⟩
  rw [← hsb] at hS0
  rw [← hsb]
  have HP := Lib.hid hp
  have hn := hS0.rd.parts.1
  have hlen : n ≤ 1000 := by
    have h4 := hp.length_eq
    rw [blks_length] at h4
    have := hS0.fr.good.cnt
    omega
  have HN := Lib.hid hn
  clear hp hn hW1 hsb HH
  refine (Find_ref B s on base n cap R W1 hS0.rd HN.out hlen).mono ?_
  rintro e w1 ⟨hfd, ho1⟩
  have HS1 := Lib.hid (hS0.quiet ho1)
  clear ho1 hS0
  obtain ⟨a0, a1, a2, a3, a4, a5⟩ := HS1.out.scells
  obtain ⟨o0, o1, o2⟩ := HS1.out.ocells
  obtain ⟨⟨r0, r1, r2, r3, r4, r5⟩, rf⟩ := HS1.out.ra.c
  simp only at o0 o1 o2
  rcases hfd with ⟨j, x, hx, hk, rfl⟩ | ⟨hno, rfl⟩
  · obtain ⟨j', hx'⟩ := HS1.out.hit HP.out hx
    have hjn : j < n := by have := (List.getElem?_eq_some_iff.1 hx).1; have := HN.out; omega
    have t1 : ¬ (j : Int) < 0 := by omega
    have t2 : (j : Int) < (n : Int) := by omega
    obtain ⟨xn, hxn⟩ : ∃ a, a = x.b.n := ⟨_, rfl⟩
    by_cases hw : om = xn
    · subst hw
      have HF : Hid (Calls Try.prog 14 #[.pointer (some ⟨p, 0, none⟩), .int .i64 on, .slice ob om oc] w1 fun e w' => e = .returned (.int .i64 0) ∧ Hid (Fresh w p (wrote s j' x.b ods) w' ∧ Mv p s w1 (wrote s j' x.b ods) w')) := by
        rw [hk]; exact HS1.out.fr.putW hx' ob om oc ods hxn HDS.out
      have HX := Lib.hid hx
      have HX' := Lib.hid hx'
      have HXN := Lib.hid hxn
      clear hx hx' hk hxn
      go_wp2_with fail
      refine HF.out.mono ?_
      rintro e w2 ⟨rfl, hf2⟩
      have HS2 := Lib.hid (HS1.out.mv hf2.out.2 hf2.out.1)
      have HPW := Lib.hid (fun b c => put_perm HP.out HX.out HX'.out ods b c)
      clear HS1 HF hf2
      obtain ⟨a0, a1, a2, a3, a4, a5⟩ := HS2.out.scells
      obtain ⟨o0, o1, o2⟩ := HS2.out.ocells
      simp only at o0 o1 o2
      obtain ⟨hdr, g, off, rfl, hg, d0, d1, d2, d3⟩ := HS2.out.rd.at HX.out
      clear hdr
      rw [← HXN.out] at d2
      clear d0 d1 d3 hg
      go_wp2_with fail
      go_quiet (fail)
      obtain ⟨W3, hW3⟩ : ∃ W3, W3 = w2.drewN nq := ⟨_, rfl⟩
      rw [← hW3]
      have ho3 : Oth [] w2 W3 := by rw [hW3]; exact (Oth.refl _ _).drewN _
      have HS3 := Lib.hid (HS2.out.quiet ho3)
      clear HS2 hW3 ho3 d2 a0 a1 a2 a3 a4 a5 o0 o1 o2
      obtain ⟨a0, a1, a2, a3, a4, a5⟩ := HS3.out.scells
      obtain ⟨o0, o1, o2⟩ := HS3.out.ocells
      simp only at o0 o1 o2
      have l0 := HS3.out.bs.1
      have l1 := HS3.out.bo.1
      go_wp2_with (at_builtin; refine wpList_append_rd _ rfl _ _ 53 rfl W3.heap.size 77 i0 _ 4 48 Try.underlying53 hi hz0 hz1 hz2 rfl (by decide) _ 0 [] rfl ?b0 (some ⟨g, off, none⟩) n cap (rcs R) rfl ?b1 ?b2 (rcs_one _) ?b3 ?b4 ?b5 ?_)
      case b0 => exact ⟨rfl, .inr ⟨W3.heap.size, 0, #[], rfl, Nat.le_refl _, heap_alloc_new _ _, Nat.le_refl _, Nat.zero_le _, rfl, rfl⟩⟩
      case b1 => rw [rcs_length, ← HN.out]
      case b2 =>
        intro q u hu
        obtain ⟨g', off', hb, hgB, hc⟩ := HS3.out.rd.parts.2.2.2.1 q u hu
        exact ⟨g', off', hb, ((Oth.refl [] W3).alloc _).cell hc (by simp)⟩
      case b3 => unfold maxLen; omega
      case b4 => omega
      case b5 => simp
      intro v4 W4 hown4 hgrow4 hat4
      obtain ⟨g4, c4, rfl, hg4, hrow4⟩ := row_of_owns hown4 (by omega)
      have ho4 : Oth [] W3 W4 := ((Oth.refl [] W3).alloc _).grown hgrow4 (fun k hk => by simp [Value.ownBlock] at hk; subst hk; exact .inr (Nat.le_refl _))
      have HOW4 := Lib.hid hown4
      have HG4 : Hid (W3.heap.size ≤ g4) := hg4
      have HS4 := Lib.hid (HS3.out.quiet ho4)
      have HO4 := Lib.hid ho4
      clear hown4 hgrow4 hat4 hg4 hrow4 ho4 a0 a1 a2 a3 a4 a5 o0 o1 o2
      obtain ⟨a0, a1, a2, a3, a4, a5⟩ := HS4.out.scells
      obtain ⟨o0, o1, o2⟩ := HS4.out.ocells
      simp only at o0 o1 o2
      have HPL := Lib.hid (plain_any ob om oc ods W4 (HDS.out.oth HS4.out.fr.oth) (by omega))
      go_wp2_with fail
      refine HPL.out.mono ?_
      rintro e W5 ⟨v5, rfl, hown5, ho5⟩
      have hb5' : ∀ k, v5.ownBlock = some k → W4.heap.size ≤ k := fun k hk => (hown5.lt k hk).1
      obtain ⟨b5, c5, rfl, hr5⟩ := owns_reads hown5 (by unfold maxLen; omega) HDS.out.2.2.1
      have HB5 : Hid (∀ ad, b5 = some ad → W3.heap.size ≤ ad.block) := fun ad had => by
        have h1 := hb5' ad.block (by rw [had]; rfl)
        have h2 := HO4.out.size
        omega
      have HNE : Hid (∀ ad, b5 = some ad → ad.block ≠ g4) := fun ad had => by
        have h1 := hb5' ad.block (by rw [had]; rfl)
        have h2 := (HOW4.out.lt g4 rfl).2
        omega
      have HS5 := Lib.hid (HS4.out.quiet ho5)
      have HO5 := Lib.hid (HO4.out.trans ho5 (Fr.nil _ _))
      have HOW5 := Lib.hid (owns_oth HOW4.out ho5 (by simp))
      have HR5 := Lib.hid hr5
      obtain ⟨g4', c4', he4, hg4', hrow5⟩ := row_of_owns HOW5.out (by omega)
      cases he4
      have q3 := hrow5.cell (rcs_get R j x HX.out).2.2.2
      have f3 := hrow5.free (j * 4 + 3)
      have hs3 := HS3.out.br.1
      have hne0 : ¬ g4 = sb := by have := HG4.out; have := HS3.out.bs.1; omega
      have hne2 : ¬ g4 = sb + 2 := by have := HG4.out; omega
      have hne0' : ¬ sb = g4 := fun e => hne0 e.symm
      have hne2' : ¬ sb + 2 = g4 := fun e => hne2 e.symm
      have fs5 := HS5.out.sa.f 5
      clear hown5 hb5' hr5 hrow5 hg4' HPL HOW4 HS4 ho5 a0 a1 a2 a3 a4 a5 o0 o1 o2
      obtain ⟨a0, a1, a2, a3, a4, a5⟩ := HS5.out.scells
      obtain ⟨⟨r0, r1, r2, r3, r4, r5⟩, rf⟩ := HS5.out.ra.c
      go_wp2_with fail
      have h55 : ((W5.setCell ⟨g4, j * 4 + 3, none⟩ (.slice b5 om c5)).setCell ⟨sb, 5, none⟩ (.slice (some ⟨g4, 0, none⟩) n c4)).heap[sb + 2]? = some (.cells #[.int .i64 0, .int .i64 0, .int .i64 0, .int .i64 0, .int .i64 0, .slice none 0 0] 55 (0, 0)) := by
        rw [Below.heap_setCell _ _ _ _ (by simp), Below.heap_setCell _ _ _ _ (by simpa using fun e => hne2 e.symm)]
        exact HS5.out.ra
      refine bodyPost_ret (ret24 (six_heap h55)) rfl ⟨wrote s j' x.b ods, .slice (some ⟨g4, 0, none⟩) n c4, rfl, ?_, by show s.next ≤ s.next + 1; omega, rfl⟩
      have hlen5 : ods.length = om := HDS.out.1.symm
      refine put_fin (o := ⟨3, on, ob, om, oc, ods⟩) (x := x) HS3.out HX.out HN.out ?_ hlen5 ?_ (c5 := c5) ?_ HB5.out HG4.out (HPW.out b5 c5) (six_oth (Oth.refl _ _) (.inl (by simp)))
      · exact ((HO5.out.mono (S' := [sb]) (by simp)).setCell (.inr HG4.out) _).setCell (.inl (by simp)) _
      · have h1 := owns_set HOW5.out (j * 4 + 3) (.slice b5 om c5) (by omega)
        exact owns_other h1 (fun k hk => by simp [Value.ownBlock] at hk; subst hk; exact hne0) _
      · have h1 : Oth [g4, sb] W5 ((W5.setCell ⟨g4, j * 4 + 3, none⟩ (.slice b5 om c5)).setCell ⟨sb, 5, none⟩ (.slice (some ⟨g4, 0, none⟩) n c4)) := ((Oth.refl _ _).setCell (.inl (by simp)) _).setCell (.inl (by simp)) _
        refine HR5.out.othB h1 (fun ad had => ?_)
        have h2 := HB5.out ad had
        have h3 := HS3.out.bs.1
        have h4 := HNE.out ad had
        simp
        omega
    · have HF : Hid (Calls Try.prog 14 #[.pointer (some ⟨p, 0, none⟩), .int .i64 on, .slice ob om oc] w1 fun e w' => e = .returned (.int .i64 20) ∧ Hid (Oth [] w1 w')) := by
        rw [hk]; exact (HS1.out.fr.putShape hx' ob om oc (by omega) (by omega)).mono (fun e w' h => ⟨h.1, h.2.2⟩)
      have HX := Lib.hid hx
      have HXN := Lib.hid hxn
      clear hx hx' hk hxn
      go_wp2_with fail
      refine HF.out.mono ?_
      rintro e w2 ⟨rfl, ho2⟩
      have HS2 := Lib.hid (HS1.out.quiet ho2.out)
      clear HS1 HF ho2
      obtain ⟨a0, a1, a2, a3, a4, a5⟩ := HS2.out.scells
      obtain ⟨o0, o1, o2⟩ := HS2.out.ocells
      simp only at o0 o1 o2
      obtain ⟨hdr, g, off, rfl, hg, d0, d1, d2, d3⟩ := HS2.out.rd.at HX.out
      clear hdr
      rw [← HXN.out] at d2
      clear d0 d1 d3 hg
      have hw1 : ((om : Int) != (xn : Int)) = true := by simp; omega
      go_wp2_with fail
      go_quiet (fail)
      obtain ⟨W3, hW3⟩ : ∃ W3, W3 = w2.drewN nq := ⟨_, rfl⟩
      rw [← hW3]
      have ho3 : Oth [] w2 W3 := by rw [hW3]; exact (Oth.refl _ _).drewN _
      have HS3 := Lib.hid (HS2.out.quiet ho3)
      clear HS2 hW3 ho3 d2 a0 a1 a2 a3 a4 a5 o0 o1 o2
      obtain ⟨a0, a1, a2, a3, a4, a5⟩ := HS3.out.scells
      obtain ⟨⟨r0, r1, r2, r3, r4, r5⟩, rf⟩ := HS3.out.ra.c
      go_wp2
      exact bodyPost_ret (ret24 (six_heap HS3.out.ra)) rfl (HS3.out.same HP.out (six_oth (Oth.refl _ _) (.inl (by simp))))
  · have HF : Hid (Calls Try.prog 14 #[.pointer (some ⟨p, 0, none⟩), .int .i64 on, .slice ob om oc] w1 fun e w' => e = .returned (.int .i64 14) ∧ Hid (Oth [] w1 w')) := (HS1.out.fr.putNot on _ HWF.out (Stp.miss HP.out hno)).mono (fun e w' h => ⟨h.1, h.2.2⟩)
    clear hno
    go_wp2_with fail
    refine HF.out.mono ?_
    rintro e w2 ⟨rfl, ho2⟩
    have HS2 := Lib.hid (HS1.out.quiet ho2.out)
    clear HS1 HF ho2
    obtain ⟨a0, a1, a2, a3, a4, a5⟩ := HS2.out.scells
    obtain ⟨o0, o1, o2⟩ := HS2.out.ocells
    obtain ⟨⟨r0, r1, r2, r3, r4, r5⟩, rf⟩ := HS2.out.ra.c
    simp only at o0 o1 o2
    go_wp2
    exact bodyPost_ret (ret24 (six_heap HS2.out.ra)) rfl (HS2.out.same HP.out (six_oth (Oth.refl _ _) (.inl (by simp))))
end Go.Proofs.Ythllilkafdgheaa
