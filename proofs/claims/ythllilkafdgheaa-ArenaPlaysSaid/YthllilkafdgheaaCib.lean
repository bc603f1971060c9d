/- The walk of step at a call that does nothing. Condition: the arena and the reference are in one state. -/
import Derived.Test.YthllilkafdgheaaCia
namespace Go.Proofs.Ythllilkafdgheaa
open Go.RowKit
set_option linter.unusedVariables false
set_option linter.unusedSimpArgs false

set_option maxHeartbeats 8000000 in
set_option maxRecDepth 100000 in
theorem step_none {K : Nat → Obj → Prop} (w : World) (p : Nat) (s : St) (v : Value) (o : OpV) (W : World) (h : Both K w p s v W) (hnx : s.next < 1000) (hcp : s.cap ≤ 300) (hwf : (Lit.int .i64 o.n).wf = true) (hm : o.m ≤ 300) (hds : ReadsI o.b o.m o.ds w) (hk : ¬ o.k = 1 ∧ ¬ o.k = 2 ∧ ¬ o.k = 3 ∧ ¬ o.k = 4) :
    Calls Try.prog 24 #[.pointer (some ⟨p, 0, none⟩), sval s v, .agg #[.int .i64 o.k, .int .i64 o.n, .slice o.b o.m o.c]] W fun e w' => Stepped K w p s e w' := by
  obtain ⟨base, n, cap, rfl⟩ : ∃ base n cap, v = .slice base n cap := by
    obtain ⟨B, R, h1, _⟩ := h.rf
    obtain ⟨b, c, he⟩ := h1.slice
    exact ⟨b, _, c, he⟩
  have HH := Lib.hid h
  have HDS := Lib.hid hds
  have HWF := Lib.hid hwf
  obtain ⟨ok, on, ob, om, oc, ods⟩ := o
  simp only at *
  unfold sval
  clear h hds hwf
  obtain ⟨k1, k2, k3, k4⟩ := hk
  go_enter Try.func24, Try.ntmps24
  go_wp2_with fail
  obtain ⟨W1, hW1⟩ : ∃ W1, W1 = ((W.alloc (.cells #[.int .i64 s.cap, .int .i64 s.next, .int .i64 s.high, .int .i64 s.peak, .int .i64 s.moves, .slice base n cap] 55)).alloc (.cells #[.int .i64 ok, .int .i64 on, .slice ob om oc] 31)).alloc (.cells #[.int .i64 0, .int .i64 0, .int .i64 0, .int .i64 0, .int .i64 0, .slice none 0 0] 55) := ⟨_, rfl⟩
  rw [← hW1]
  obtain ⟨B, R, hS0, hp⟩ := HH.out.start ⟨ok, on, ob, om, oc, ods⟩ hW1
  obtain ⟨sb, hsb⟩ : ∃ sb, sb = W.heap.size := ⟨_, rfl⟩
  rw [← hsb] at hS0
  rw [← hsb]
  have HP := Lib.hid hp
  have hn := hS0.rd.parts.1
  have hlen : n ≤ 1000 := by
    have h4 := hp.length_eq
    rw [blks_length] at h4
    have := hS0.fr.good.cnt
    omega
  have HN := Lib.hid hn
  clear hp hn hW1 hsb HH
  refine (Find_ref B s on base n cap R W1 hS0.rd HN.out hlen).mono ?_
  rintro e w1 ⟨hfd, ho1⟩
  have HS1 := Lib.hid (hS0.quiet ho1)
  clear ho1 hS0
  obtain ⟨a0, a1, a2, a3, a4, a5⟩ := HS1.out.scells
  obtain ⟨o0, o1, o2⟩ := HS1.out.ocells
  obtain ⟨⟨r0, r1, r2, r3, r4, r5⟩, rf⟩ := HS1.out.ra.c
  simp only at o0 o1 o2
  rcases hfd with ⟨j, x, hx, hk, rfl⟩ | ⟨hno, rfl⟩
  case' inl => clear hx hk
  all_goals
    go_wp2
    exact bodyPost_ret (ret24 (six_heap HS1.out.ra)) rfl (HS1.out.same HP.out (six_oth (Oth.refl _ _) (.inl (by simp))))
end Go.Proofs.Ythllilkafdgheaa
