/- The walk of step at a Give. Condition: the arena and the reference are in one state. -/
import Derived.Test.YthllilkafdgheaaCia
import Derived.BigRegion
namespace Go.Proofs.Ythllilkafdgheaa
open Go.RowKit
set_option linter.unusedVariables false
set_option linter.unusedSimpArgs false

theorem six_drew {X : World} {r : Nat} {t : TypeId} {a0 a1 a2 a3 a4 a5 b0 b1 b2 b3 b4 b5 : Value} (h : X.heap[r]? = some (.cells #[a0, a1, a2, a3, a4, a5] t (0, 0))) : (six X r b0 b1 b2 b3 b4 b5).drew.heap[r]? = some (.cells #[b0, b1, b2, b3, b4, b5] t (0, 0)) := by
  have e : ∀ Y : World, Y.drew.heap = Y.heap := fun _ => rfl
  rw [e]; exact six_heap h
theorem six_odrew {w X : World} {r : Nat} {b0 b1 b2 b3 b4 b5 : Value} (h : Oth [] w X) : Oth [r] w (six X r b0 b1 b2 b3 b4 b5).drew := (six_oth (h.mono (S' := [r]) (by simp)) (.inl (by simp))).drew

set_option maxHeartbeats 8000000 in
set_option maxRecDepth 100000 in
theorem step_give {K : Nat → Obj → Prop} (w : World) (p : Nat) (s : St) (v : Value) (o : OpV) (W : World) (h : Both K w p s v W) (hnx : s.next < 1000) (hcp : s.cap ≤ 300) (hwf : (Lit.int .i64 o.n).wf = true) (hm : o.m ≤ 300) (hds : ReadsI o.b o.m o.ds w) (hk : o.k = 1) :
    Calls Try.prog 24 #[.pointer (some ⟨p, 0, none⟩), sval s v, .agg #[.int .i64 o.k, .int .i64 o.n, .slice o.b o.m o.c]] W fun e w' => Stepped K w p s e w' := by
  obtain ⟨base, n, cap, rfl⟩ : ∃ base n cap, v = .slice base n cap := by
    obtain ⟨B, R, h1, _⟩ := h.rf
    obtain ⟨b, c, he⟩ := h1.slice
    exact ⟨b, _, c, he⟩
  have HH := Lib.hid h
  have HDS := Lib.hid hds
  have HWF := Lib.hid hwf
  obtain ⟨ok, on, ob, om, oc, ods⟩ := o
  simp only at *
  unfold sval
  clear h hds hwf
  subst hk
  go_enter Try.func24, Try.ntmps24
  go_wp2_with fail
  obtain ⟨W1, hW1⟩ : ∃ W1, W1 = ((W.alloc (.cells #[.int .i64 s.cap, .int .i64 s.next, .int .i64 s.high, .int .i64 s.peak, .int .i64 s.moves, .slice base n cap] 55)).alloc (.cells #[.int .i64 1, .int .i64 on, .slice ob om oc] 31)).alloc (.cells #[.int .i64 0, .int .i64 0, .int .i64 0, .int .i64 0, .int .i64 0, .slice none 0 0] 55) := ⟨_, rfl⟩
  rw [← hW1]
  obtain ⟨B, R, hS0, hp⟩ := HH.out.start ⟨1, on, ob, om, oc, ods⟩ hW1
  obtain ⟨sb, hsb⟩ : ∃ sb, sb = W.heap.size := ⟨_, rfl⟩
  rw [← hsb] at hS0
  rw [← hsb]
  have HP := Lib.hid hp
  have hn := hS0.rd.parts.1
  have hlen : n ≤ 1000 := by
    have h4 := hp.length_eq
    rw [blks_length] at h4
    have := hS0.fr.good.cnt
    omega
  have HN := Lib.hid hn
  clear hp hn hW1 hsb HH
  refine (Find_ref B s on base n cap R W1 hS0.rd HN.out hlen).mono ?_
  rintro e w1 ⟨hfd, ho1⟩
  have HS1 := Lib.hid (hS0.quiet ho1)
  clear ho1 hS0
  obtain ⟨a0, a1, a2, a3, a4, a5⟩ := HS1.out.scells
  obtain ⟨o0, o1, o2⟩ := HS1.out.ocells
  obtain ⟨⟨r0, r1, r2, r3, r4, r5⟩, rf⟩ := HS1.out.ra.c
  simp only at o0 o1 o2
  obtain ⟨z, rfl⟩ : ∃ z : Int, e = .returned (.int .i64 z) := by
    rcases hfd with ⟨j, x, hx, hk, rfl⟩ | ⟨hno, rfl⟩
    · exact ⟨_, rfl⟩
    · exact ⟨_, rfl⟩
  clear hfd
  by_cases hw : on < 1 ∨ 65536 < on
  · have HG : Hid (Calls Try.prog 11 #[.pointer (some ⟨p, 0, none⟩), .int .i64 on] w1 fun e w' => e = .returned (.tuple #[.int .i64 0, .int .i64 11]) ∧ Hid (Oth [] w1 w')) := (HS1.out.fr.rangeM on hw).mono (fun e w' h => ⟨h.1, h.2.2⟩)
    have HRR := Lib.hid (fun W (_ : Hid (RdR B (.slice base n cap) R W)) => GiveR_range s on base n cap W hw)
    unfold sval at HRR
    clear hw
    go_wp2_with fail
    refine HG.out.mono ?_
    rintro e w2 ⟨rfl, ho2⟩
    have HS2 := Lib.hid (HS1.out.quiet ho2.out)
    clear HS1 HG ho2
    obtain ⟨a0, a1, a2, a3, a4, a5⟩ := HS2.out.scells
    obtain ⟨o0, o1, o2⟩ := HS2.out.ocells
    simp only at o0 o1 o2
    go_wp2_with fail
    refine (HRR.out _ (Lib.hid HS2.out.rd)).mono ?_
    rintro e w3 ⟨rfl, ho3⟩
    have HS3 := Lib.hid (HS2.out.quiet ho3)
    clear HS2 ho3 HRR
    obtain ⟨a0, a1, a2, a3, a4, a5⟩ := HS3.out.scells
    obtain ⟨o0, o1, o2⟩ := HS3.out.ocells
    obtain ⟨⟨r0, r1, r2, r3, r4, r5⟩, rf⟩ := HS3.out.ra.c
    simp only at o0 o1 o2
    have l0 := HS3.out.bs.1
    have l1 := HS3.out.br.1
    go_wp2
    exact bodyPost_ret (ret24 (((Oth.refl [] _).alloc _).heap (six_heap HS3.out.ra) (by simp))) rfl (HS3.out.same HP.out ((six_oth (Oth.refl _ _) (.inl (by simp))).alloc _))
  · obtain ⟨q, rfl⟩ : ∃ q : Nat, on = q := ⟨on.toNat, by omega⟩
    by_cases hq : s.cap < s.live + q
    · have HG : Hid (Calls Try.prog 11 #[.pointer (some ⟨p, 0, none⟩), .int .i64 (q : Int)] w1 fun e w' => e = .returned (.tuple #[.int .i64 0, .int .i64 15]) ∧ Hid (Oth [] w1 w')) := (HS1.out.fr.fullM q (by omega) (by omega) hq).mono (fun e w' h => ⟨h.1, h.2.2⟩)
      have HRR := Lib.hid (fun W (h : Hid (RdR B (.slice base n cap) R W)) => GiveR_full B s q base n cap R W h.out HP.out HS1.out.fr.good (by omega) (by omega) hq)
      unfold sval at HRR
      clear hw hq
      go_wp2_with fail
      refine HG.out.mono ?_
      rintro e w2 ⟨rfl, ho2⟩
      have HS2 := Lib.hid (HS1.out.quiet ho2.out)
      clear HS1 HG ho2
      obtain ⟨a0, a1, a2, a3, a4, a5⟩ := HS2.out.scells
      obtain ⟨o0, o1, o2⟩ := HS2.out.ocells
      simp only at o0 o1 o2
      go_wp2_with fail
      refine (HRR.out _ (Lib.hid HS2.out.rd)).mono ?_
      rintro e w3 ⟨rfl, ho3⟩
      have HS3 := Lib.hid (HS2.out.quiet ho3)
      clear HS2 ho3 HRR
      obtain ⟨a0, a1, a2, a3, a4, a5⟩ := HS3.out.scells
      obtain ⟨o0, o1, o2⟩ := HS3.out.ocells
      obtain ⟨⟨r0, r1, r2, r3, r4, r5⟩, rf⟩ := HS3.out.ra.c
      simp only at o0 o1 o2
      have l0 := HS3.out.bs.1
      have l1 := HS3.out.br.1
      go_wp2
      exact bodyPost_ret (ret24 (((Oth.refl [] _).alloc _).heap (six_heap HS3.out.ra) (by simp))) rfl (HS3.out.same HP.out ((six_oth (Oth.refl _ _) (.inl (by simp))).alloc _))
    · have HG : Hid (Calls Try.prog 11 #[.pointer (some ⟨p, 0, none⟩), .int .i64 (q : Int)] w1 fun e w' => e = .returned (.tuple #[.int .i64 ((s.next : Int) + 1), .int .i64 0]) ∧ ∃ s', Hid (Given s q s' ∧ Fresh w p s' w' ∧ Mv p s w1 s' w')) := HS1.out.fr.giveM q hnx (by omega) (by omega) (by omega)
      have HGD := Lib.hid HS1.out.fr.good
      have hq1 : 1 ≤ q := by omega
      have hq2 : q ≤ 65536 := by omega
      have hq3 : s.live + q ≤ s.cap := by omega
      have HQ3 := Lib.hid hq3
      clear hw hq hq3
      go_wp2_with fail
      refine HG.out.mono ?_
      rintro e w2 ⟨rfl, s', hf2⟩
      have HS2 := Lib.hid (HS1.out.mv hf2.out.2.2 hf2.out.2.1)
      have HGV := Lib.hid hf2.out.1
      clear HS1 HG hf2
      obtain ⟨a0, a1, a2, a3, a4, a5⟩ := HS2.out.scells
      obtain ⟨o0, o1, o2⟩ := HS2.out.ocells
      simp only at o0 o1 o2
      have HGR := Lib.hid (Give_ref B s s' q base n cap R w2 HS2.out.rd HP.out HGD.out HGV.out hq1 hq2 HQ3.out hnx (fun b hb => (HS2.out.bb b hb).1))
      obtain ⟨hs1, hs2⟩ := HGV.out.next
      have hs3 : (s.next : Int) + 1 = (s'.next : Int) := by omega
      unfold sval at HGR
      have HC2 := Lib.hid hs2
      have HC1 := Lib.hid hs1
      clear hs1 hs2
      go_wp2_with fail
      refine HGR.out.mono ?_
      rintro e w3 ⟨v3, B3, R3, rfl, hr3, hp3, hfr3, ho3⟩
      obtain ⟨b3, c3, hv3⟩ := hr3.slice
      obtain ⟨n3, hn3⟩ : ∃ a, a = R3.length := ⟨_, rfl⟩
      rw [← hn3] at hv3
      subst hv3
      have HS3 := Lib.hid (HS2.out.quiet ho3)
      have HB4 := Lib.hid (both_new HS2.out.fr HS2.out.bb ho3 hr3 hfr3 hp3)
      have HP3 := Lib.hid hp3
      have hsz := ho3.size
      have HL2 := Lib.hid HS2.out.br.1
      have HSZ := Lib.hid hsz
      clear HS2 ho3 HGR hr3 hfr3 hp3 hn3 hsz
      obtain ⟨a0, a1, a2, a3, a4, a5⟩ := HS3.out.scells
      obtain ⟨o0, o1, o2⟩ := HS3.out.ocells
      obtain ⟨⟨r0, r1, r2, r3, r4, r5⟩, rf⟩ := HS3.out.ra.c
      simp only at o0 o1 o2
      have l0 := HS3.out.bs.1
      have l1 := HS3.out.br.1
      go_wp2_with fail
      obtain ⟨W9, hW9⟩ : ∃ W9, W9 = w3.alloc (.cells #[.int .i64 s'.cap, .int .i64 s'.next, .int .i64 s'.high, .int .i64 s'.peak, .int .i64 s'.moves, .slice b3 n3 c3] 55) := ⟨_, rfl⟩
      have ho9 : Oth [] w3 W9 := by rw [hW9]; exact (Oth.refl _ _).alloc _
      obtain ⟨nb, hnb⟩ : ∃ nb, nb = w3.heap.size := ⟨_, rfl⟩
      have hh9 : W9.heap[nb]? = some (.cells #[.int .i64 s'.cap, .int .i64 s'.next, .int .i64 s'.high, .int .i64 s'.peak, .int .i64 s'.moves, .slice b3 n3 c3] 55 (0, 0)) := by rw [hW9, hnb]; exact heap_alloc_new _ _
      rw [← hW9, ← hnb]
      have n0 : W9.cell? ⟨nb, 0, none⟩ = some (.int .i64 s'.cap) := by simp [World.cell?, hh9]
      have n1 : W9.cell? ⟨nb, 1, none⟩ = some (.int .i64 s'.next) := by simp [World.cell?, hh9]
      have n2 : W9.cell? ⟨nb, 2, none⟩ = some (.int .i64 s'.high) := by simp [World.cell?, hh9]
      have n3' : W9.cell? ⟨nb, 3, none⟩ = some (.int .i64 s'.peak) := by simp [World.cell?, hh9]
      have n4 : W9.cell? ⟨nb, 4, none⟩ = some (.int .i64 s'.moves) := by simp [World.cell?, hh9]
      have n5 : W9.cell? ⟨nb, 5, none⟩ = some (.slice b3 n3 c3) := by simp [World.cell?, hh9]
      have HR9 := Lib.hid (HS3.out.quiet ho9).ra
      have hne1 : ¬ nb = sb + 1 + 1 := by have := HS3.out.br.1; omega
      have hne2 : ¬ sb + 1 + 1 = nb := by omega
      have HO9 := Lib.hid ho9
      clear a0 a1 a2 a3 a4 a5 o0 o1 o2 r0 r1 r2 r3 r4 r5 rf l0 l1 hW9 hnb hh9 ho9
      obtain ⟨⟨r0, r1, r2, r3, r4, r5⟩, rf⟩ := HR9.out.c
      go_region
      have hz9 : W9.heap[sb + 1 + 1]? = some (.cells #[.int .i64 0, .int .i64 0, .int .i64 0, .int .i64 0, .int .i64 0, .slice none 0 0] 55 (0, 0)) := HR9.out
      have hfin := six_drew (b0 := .int .i64 s'.cap) (b1 := .int .i64 s'.next) (b2 := .int .i64 s'.high) (b3 := .int .i64 s'.peak) (b4 := .int .i64 s'.moves) (b5 := .slice b3 n3 c3) hz9
      have hof := six_odrew (r := sb + 1 + 1) (b0 := .int .i64 s'.cap) (b1 := .int .i64 s'.next) (b2 := .int .i64 s'.high) (b3 := .int .i64 s'.peak) (b4 := .int .i64 s'.moves) (b5 := .slice b3 n3 c3) HO9.out
      obtain ⟨WF, hWF⟩ : ∃ WF, WF = (six W9 (sb + 1 + 1) (.int .i64 s'.cap) (.int .i64 s'.next) (.int .i64 s'.high) (.int .i64 s'.peak) (.int .i64 s'.moves) (.slice b3 n3 c3)).drew := ⟨_, rfl⟩
      rw [← hWF] at hfin hof
      obtain ⟨B4, hr4, hb4⟩ := HB4.out
      have hB : Hid (Both K w p s' (.slice b3 n3 c3) WF) := by
        refine both_of HS3.out.fr hr4 HP3.out (fun b hb => (hb4 b hb).1) (fun b hb ob hk => by
          rcases (hb4 _ hb).2 with h | h
          · exact HS3.out.bk b h ob hk
          · have := HS3.out.kl b ob hk; have := HL2.out; omega) HS3.out.br (by have := HS3.out.new; omega) (fun hm => ?_) (fun k ob hk => ⟨HS3.out.kp k ob hk, by have := HS3.out.kl k ob hk; omega⟩) hof
        rcases (hb4 _ hm).2 with h | h
        · have := HS3.out.lt _ h; omega
        · have := HL2.out; omega
      have hN : s'.next ≤ s.next + 1 := by have := HC1.out; omega
      have hC : s'.cap = s.cap := HC2.out
      clear hz9 hof r0 r1 r2 r3 r4 r5 rf n0 n1 n2 n3' n4 n5
      show Exit.then _ _ _ _ (six W9 (sb + 1 + 1) (.int .i64 s'.cap) (.int .i64 s'.next) (.int .i64 s'.high) (.int .i64 s'.peak) (.int .i64 s'.moves) (.slice b3 n3 c3)).drew
      rw [← hWF]
      clear hWF
      go_wp2_with fail
      refine bodyPost_ret (ret24 hfin) rfl ⟨s', .slice b3 n3 c3, rfl, hB.out, hN, hC⟩
end Go.Proofs.Ythllilkafdgheaa
