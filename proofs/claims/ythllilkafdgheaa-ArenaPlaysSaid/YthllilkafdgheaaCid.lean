/- The walk of step at a Free. Condition: the arena and the reference are in one state. -/
import Derived.Test.YthllilkafdgheaaCia
namespace Go.Proofs.Ythllilkafdgheaa
open Go.RowKit
set_option linter.unusedVariables false
set_option linter.unusedSimpArgs false

set_option maxHeartbeats 8000000 in
set_option maxRecDepth 100000 in
theorem step_free {K : Nat → Obj → Prop} (w : World) (p : Nat) (s : St) (v : Value) (o : OpV) (W : World) (h : Both K w p s v W) (hnx : s.next < 1000) (hcp : s.cap ≤ 300) (hwf : (Lit.int .i64 o.n).wf = true) (hm : o.m ≤ 300) (hds : ReadsI o.b o.m o.ds w) (hk : o.k = 2) :
    Calls Try.prog 24 #[.pointer (some ⟨p, 0, none⟩), sval s v, .agg #[.int .i64 o.k, .int .i64 o.n, .slice o.b o.m o.c]] W fun e w' => Stepped K w p s e w' := by
  obtain ⟨base, n, cap, rfl⟩ : ∃ base n cap, v = .slice base n cap := by
    obtain ⟨B, R, h1, _⟩ := h.rf
    obtain ⟨b, c, he⟩ := h1.slice
    exact ⟨b, _, c, he⟩
  have HH := Lib.hid h
  have HDS := Lib.hid hds
  have HWF := Lib.hid hwf
  obtain ⟨ok, on, ob, om, oc, ods⟩ := o
  simp only at *
  unfold sval
  clear h hds hwf
  subst hk
  go_enter Try.func24, Try.ntmps24
  go_wp2_with fail
  obtain ⟨W1, hW1⟩ : ∃ W1, W1 = ((W.alloc (.cells #[.int .i64 s.cap, .int .i64 s.next, .int .i64 s.high, .int .i64 s.peak, .int .i64 s.moves, .slice base n cap] 55)).alloc (.cells #[.int .i64 2, .int .i64 on, .slice ob om oc] 31)).alloc (.cells #[.int .i64 0, .int .i64 0, .int .i64 0, .int .i64 0, .int .i64 0, .slice none 0 0] 55) := ⟨_, rfl⟩
  rw [← hW1]
  obtain ⟨B, R, hS0, hp⟩ := HH.out.start ⟨2, on, ob, om, oc, ods⟩ hW1
  obtain ⟨sb, hsb⟩ : ∃ sb, sb = W.heap.size := ⟨_, rfl⟩
  rw [← hsb] at hS0
  rw [← hsb]
  have HP := Lib.hid hp
  have hn := hS0.rd.parts.1
  have hlen : n ≤ 1000 := by
    have h4 := hp.length_eq
    rw [blks_length] at h4
    have := hS0.fr.good.cnt
    omega
  have HN := Lib.hid hn
  clear hp hn hW1 hsb HH
  refine (Find_ref B s on base n cap R W1 hS0.rd HN.out hlen).mono ?_
  rintro e w1 ⟨hfd, ho1⟩
  have HS1 := Lib.hid (hS0.quiet ho1)
  clear ho1 hS0
  obtain ⟨a0, a1, a2, a3, a4, a5⟩ := HS1.out.scells
  obtain ⟨o0, o1, o2⟩ := HS1.out.ocells
  obtain ⟨⟨r0, r1, r2, r3, r4, r5⟩, rf⟩ := HS1.out.ra.c
  simp only at o0 o1 o2
  rcases hfd with ⟨j, x, hx, hk, rfl⟩ | ⟨hno, rfl⟩
  · obtain ⟨j', hx'⟩ := HS1.out.hit HP.out hx
    have HF : Hid (Calls Try.prog 12 #[.pointer (some ⟨p, 0, none⟩), .int .i64 on] w1 fun e w' => e = .returned (.int .i64 0) ∧ Hid (Fresh w p (freed s j' x.b) w' ∧ Mv p s w1 (freed s j' x.b) w')) := by
      rw [hk]; exact HS1.out.fr.freeM hx'
    have hjn : j < n := by have := (List.getElem?_eq_some_iff.1 hx).1; have := HN.out; omega
    have t1 : ¬ (j : Int) < 0 := by omega
    have HX := Lib.hid hx
    have HX' := Lib.hid hx'
    clear hx hx' hk
    go_wp2_with fail
    refine HF.out.mono ?_
    rintro e w2 ⟨rfl, hf2⟩
    have HS2 := Lib.hid (HS1.out.mv hf2.out.2 hf2.out.1)
    clear HS1 HF hf2
    obtain ⟨a0, a1, a2, a3, a4, a5⟩ := HS2.out.scells
    obtain ⟨o0, o1, o2⟩ := HS2.out.ocells
    simp only at o0 o1 o2
    have HWO := Lib.hid (Without_ref B s j base n cap R w2 HS2.out.rd hlen hjn (fun b hb => (HS2.out.bb b hb).1))
    unfold sval at HWO
    go_wp2_with fail
    refine HWO.out.mono ?_
    rintro e w3 ⟨v3, B3, rfl, hr3, hfr3, ho3⟩
    obtain ⟨b3, c3, hv3⟩ := hr3.slice
    obtain ⟨n3, hn3⟩ : ∃ a, a = (R.take j ++ R.drop (j + 1)).length := ⟨_, rfl⟩
    rw [← hn3] at hv3
    subst hv3
    have HS3 := Lib.hid (HS2.out.quiet ho3)
    have hp3 : (blks (R.take j ++ R.drop (j + 1))).Perm (freed s j' x.b).L := by
      have := perm_del HP.out (blks_get HX.out) HX'.out
      simpa [blks, freed] using this
    have HB4 := Lib.hid (both_new HS2.out.fr HS2.out.bb ho3 hr3 hfr3 hp3)
    have HP3 := Lib.hid hp3
    have hsz := ho3.size
    have HL2 := Lib.hid HS2.out.br.1
    have HSZ := Lib.hid hsz
    clear HS2 ho3 HWO hr3 hfr3 hp3 hn3 hsz
    obtain ⟨a0, a1, a2, a3, a4, a5⟩ := HS3.out.scells
    obtain ⟨o0, o1, o2⟩ := HS3.out.ocells
    obtain ⟨⟨r0, r1, r2, r3, r4, r5⟩, rf⟩ := HS3.out.ra.c
    simp only at o0 o1 o2
    have l0 := HS3.out.bs.1
    have l1 := HS3.out.br.1
    go_wp2
    obtain ⟨B4, hr4, hb4⟩ := HB4.out
    refine bodyPost_ret (ret24 (six_heap HS3.out.ra)) rfl ⟨freed s j' x.b, .slice b3 n3 c3, rfl, ?_, by show s.next ≤ s.next + 1; omega, rfl⟩
    refine both_of HS3.out.fr hr4 HP3.out (fun b hb => (hb4 b hb).1) (fun b hb ob hk => by
      rcases (hb4 _ hb).2 with h | h
      · exact HS3.out.bk b h ob hk
      · have := HS3.out.kl b ob hk; have := HL2.out; omega) HS3.out.br (by have := HS3.out.new; omega) (fun hm => ?_) (fun k ob hk => ⟨HS3.out.kp k ob hk, by have := HS3.out.kl k ob hk; omega⟩) (six_oth (Oth.refl _ _) (.inl (by simp)))
    rcases (hb4 _ hm).2 with h | h
    · have := HS3.out.lt _ h; omega
    · have := HL2.out; omega
  · have HF : Hid (Calls Try.prog 12 #[.pointer (some ⟨p, 0, none⟩), .int .i64 on] w1 fun e w' => e = .returned (.int .i64 14) ∧ w1 = w') := HS1.out.fr.freeNotM on HWF.out (Stp.miss HP.out hno)
    clear hno
    go_wp2_with fail
    refine HF.out.mono ?_
    rintro e w2 ⟨rfl, rfl⟩
    go_wp2
    exact bodyPost_ret (ret24 (six_heap HS1.out.ra)) rfl (HS1.out.same HP.out (six_oth (Oth.refl _ _) (.inl (by simp))))
end Go.Proofs.Ythllilkafdgheaa
