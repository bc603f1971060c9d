/- The walk of step at a Get. Condition: the arena and the reference are in one state. -/
import Derived.Test.YthllilkafdgheaaCie
namespace Go.Proofs.Ythllilkafdgheaa
open Go.RowKit
set_option linter.unusedVariables false
set_option linter.unusedSimpArgs false

/-- A round of the loop that adds one to each cell. -/
def Inc (g n c : Nat) (wk wr : World) : Prop := Oth [g] wk wr ∧ ∃ ds : List Int, Row 59 1 g n c (ds.map (Value.int .i64)) wr
theorem Inc.next {g n c i : Nat} {wk wr : World} (h : Inc g n c wk wr) (q : Int) : Inc g n c wk (wr.setCell ⟨g, i, none⟩ (.int .i64 q)) := by
  obtain ⟨h1, ds, h2⟩ := h
  exact ⟨h1.setCell (.inl (by simp)) _, ds.set i q, by rw [List.map_set]; exact h2.set i _⟩
theorem Inc.drewN {g n c : Nat} {wk wr : World} (h : Inc g n c wk wr) (q : Nat) : Inc g n c wk (wr.drewN q) := by
  obtain ⟨h1, ds, h2⟩ := h
  exact ⟨h1.drewN q, ds, h2⟩
theorem Inc.at {g n c i : Nat} {wk wr : World} (h : Inc g n c wk wr) (hi : i < n) : ∃ q : Int, wr.cell? ⟨g, i, none⟩ = some (.int .i64 q) := by
  obtain ⟨h1, ds, h2⟩ := h
  have := h2.len
  simp at this
  obtain ⟨q, hq⟩ : ∃ q, ds[i]? = some q := ⟨_, List.getElem?_eq_getElem (by omega)⟩
  exact ⟨q, h2.cell (by rw [List.getElem?_map, hq]; rfl)⟩
theorem Inc.free {g n c : Nat} {wk wr : World} (h : Inc g n c wk wr) (i : Nat) : wr.frozen? ⟨g, i, none⟩ = false := by
  obtain ⟨h1, ds, h2⟩ := h
  exact h2.free i

set_option maxHeartbeats 8000000 in
set_option maxRecDepth 100000 in
theorem step_get {K : Nat → Obj → Prop} (w : World) (p : Nat) (s : St) (v : Value) (o : OpV) (W : World) (h : Both K w p s v W) (hnx : s.next < 1000) (hcp : s.cap ≤ 300) (hwf : (Lit.int .i64 o.n).wf = true) (hm : o.m ≤ 300) (hds : ReadsI o.b o.m o.ds w) (hk : o.k = 4) :
    Calls Try.prog 24 #[.pointer (some ⟨p, 0, none⟩), sval s v, .agg #[.int .i64 o.k, .int .i64 o.n, .slice o.b o.m o.c]] W fun e w' => Stepped K w p s e w' := by
  obtain ⟨base, n, cap, rfl⟩ : ∃ base n cap, v = .slice base n cap := by
    obtain ⟨B, R, h1, _⟩ := h.rf
    obtain ⟨b, c, he⟩ := h1.slice
    exact ⟨b, _, c, he⟩
  have HH := Lib.hid h
  have HDS := Lib.hid hds
  have HWF := Lib.hid hwf
  obtain ⟨ok, on, ob, om, oc, ods⟩ := o
  simp only at *
  unfold sval
  clear h hds hwf
  subst hk
  go_enter Try.func24, Try.ntmps24
  go_wp2_with fail
  obtain ⟨W1, hW1⟩ : ∃ W1, W1 = ((W.alloc (.cells #[.int .i64 s.cap, .int .i64 s.next, .int .i64 s.high, .int .i64 s.peak, .int .i64 s.moves, .slice base n cap] 55)).alloc (.cells #[.int .i64 4, .int .i64 on, .slice ob om oc] 31)).alloc (.cells #[.int .i64 0, .int .i64 0, .int .i64 0, .int .i64 0, .int .i64 0, .slice none 0 0] 55) := ⟨_, rfl⟩
  rw [← hW1]
  obtain ⟨B, R, hS0, hp⟩ := HH.out.start ⟨4, on, ob, om, oc, ods⟩ hW1
  obtain ⟨sb, hsb⟩ : ∃ sb, sb = W.heap.size := ⟨_, rfl⟩
  rw [← hsb] at hS0
  rw [← hsb]
  have HP := Lib.hid hp
  have hn := hS0.rd.parts.1
  have hlen : n ≤ 1000 := by
    have h4 := hp.length_eq
    rw [blks_length] at h4
    have := hS0.fr.good.cnt
    omega
  have HN := Lib.hid hn
  clear hp hn hW1 hsb HH
  refine (Find_ref B s on base n cap R W1 hS0.rd HN.out hlen).mono ?_
  rintro e w1 ⟨hfd, ho1⟩
  have HS1 := Lib.hid (hS0.quiet ho1)
  clear ho1 hS0
  obtain ⟨a0, a1, a2, a3, a4, a5⟩ := HS1.out.scells
  obtain ⟨o0, o1, o2⟩ := HS1.out.ocells
  obtain ⟨⟨r0, r1, r2, r3, r4, r5⟩, rf⟩ := HS1.out.ra.c
  simp only at o0 o1 o2
  rcases hfd with ⟨j, x, hx, hk, rfl⟩ | ⟨hno, rfl⟩
  · obtain ⟨j', hx'⟩ := HS1.out.hit HP.out hx
    have HF : Hid (Calls Try.prog 15 #[.pointer (some ⟨p, 0, none⟩), .int .i64 on] w1 fun e w' => ∃ g' c', e = .returned (.tuple #[.slice (some ⟨g', 0, none⟩) x.b.n c', .int .i64 0]) ∧ Hid (w1.heap.size ≤ g' ∧ Row 59 1 g' x.b.n c' (x.b.d.map (Value.int .i64)) w' ∧ Oth [] w1 w')) := by
      rw [hk]; exact (HS1.out.fr.getM hx').mono (fun e w' ⟨g', c', h1, h2, h3, h4, h5⟩ => ⟨g', c', h1, h2, h3, h5⟩)
    have hjn : j < n := by have := (List.getElem?_eq_some_iff.1 hx).1; have := HN.out; omega
    have t1 : ¬ (j : Int) < 0 := by omega
    have t2 : (j : Int) < (n : Int) := by omega
    have hxd := HS1.out.fr.good.blk x.b (List.mem_of_getElem? hx')
    obtain ⟨xn, hxn⟩ : ∃ a, a = x.b.n := ⟨_, rfl⟩
    have hxm : xn ≤ 1000 := by rw [hxn]; have h1 := hxd.2.1; have h2 := HS1.out.fr.good.high; omega
    rw [← hxn] at HF
    have HX := Lib.hid hx
    have HX' := Lib.hid hx'
    have HXN := Lib.hid hxn
    have HXD := Lib.hid hxd
    clear hx hx' hk hxn hxd
    go_wp2_with fail
    refine HF.out.mono ?_
    rintro e w2 ⟨g', c', rfl, hf2⟩
    have HS2 := Lib.hid (HS1.out.quiet hf2.out.2.2)
    have HRW := Lib.hid hf2.out.2.1
    have HG := Lib.hid (show w1.heap.size ≤ g' from hf2.out.1)
    have HO12 := Lib.hid hf2.out.2.2
    obtain ⟨a0, a1, a2, a3, a4, a5⟩ := HS2.out.scells
    obtain ⟨o0, o1, o2⟩ := HS2.out.ocells
    simp only at o0 o1 o2
    obtain ⟨hdr, g, off, rfl, hg, d0, d1, d2, d3⟩ := HS2.out.rd.at HX.out
    clear hdr
    have hxc := HS2.out.rd.2 x (List.mem_of_getElem? HX.out)
    obtain ⟨xb, hxb⟩ : ∃ a, a = x.base := ⟨_, rfl⟩
    obtain ⟨xc, hxcc⟩ : ∃ a, a = x.c := ⟨_, rfl⟩
    have hdl : x.b.d.length = xn := by rw [HXN.out]; exact HXD.out.2.2.1
    rw [← hxb, ← hxcc, hdl] at d3
    have HR1 := Lib.hid hxc.1
    rw [← hxb, hdl] at HR1
    have HSM : Hid (Calls Try.prog 16 #[.slice (some ⟨g', 0, none⟩) xn c', .slice xb xn xc] w2 fun e w' => e = .returned (.bool true) ∧ Oth [] w2 w') := same_any _ _ xn c' xc x.b.d w2 (row_reads (by rw [HXN.out]; rw [← HXN.out]; exact HRW.out) HR1.out.2.2.1) HR1.out (by omega)
    clear d0 d1 d2 hg hxb hxcc hdl hxc hf2 HF
    go_wp2_with fail
    refine HSM.out.mono ?_
    rintro e w3 ⟨rfl, ho3⟩
    have HI0 : Hid (Inc g' xn c' w3 w3) := ⟨Oth.refl _ _, _, HRW.out.oth ho3 (by simp)⟩
    have HS3 := Lib.hid (HS2.out.quiet ho3)
    have HO13 := Lib.hid (HO12.out.trans ho3 (Fr.nil _ _))
    clear HS2 HSM ho3 HRW HO12 d3
    go_wp2_with fail
    go_loopw [155] (fun x wr => ∃ i : Nat, i ≤ xn ∧ x = .int .i64 i ∧ Hid (Inc g' xn c' w3 wr)) (fun x _ => (xn - intOf x).toNat)
    case atStart => exact ⟨0, by omega, rfl, HI0⟩
    case round =>
      obtain ⟨i, hin, rfl, hI⟩ := hrel
      by_cases hlt : i < xn
      · have u1 : (i : Int) < (xn : Int) := by omega
        have u2 : ¬ (i : Int) < 0 := by omega
        obtain ⟨q, hq⟩ := hI.out.at hlt
        have hfz := hI.out.free i
        go_wp2_with fail
        go_roundw
        case rel => exact ⟨i + 1, by omega, by go_num, hI.out.next _⟩
        case measure => simp [intOf]; omega
      · obtain rfl : i = xn := by omega
        have u1 : ¬ (i : Int) < (i : Int) := by omega
        have HS4 := Lib.hid (HS1.out.quiet (HO13.out.trans hI.out.1 (fun k hk => .inr (by simp at hk; subst hk; exact HG.out))))
        obtain ⟨a0, a1, a2, a3, a4, a5⟩ := HS4.out.scells
        obtain ⟨⟨r0, r1, r2, r3, r4, r5⟩, rf⟩ := HS4.out.ra.c
        clear hI
        go_wp2
        exact bodyPost_ret (ret24 (six_heap HS4.out.ra)) rfl (HS4.out.same HP.out (six_oth (Oth.refl _ _) (.inl (by simp))))
  · have HF : Hid (Calls Try.prog 15 #[.pointer (some ⟨p, 0, none⟩), .int .i64 on] w1 fun e w' => e = .returned (.tuple #[.slice none 0 0, .int .i64 14]) ∧ Hid (Oth [] w1 w')) := (HS1.out.fr.getNot on HWF.out (Stp.miss HP.out hno)).mono (fun e w' h => ⟨h.1, h.2.2⟩)
    clear hno
    go_wp2_with fail
    refine HF.out.mono ?_
    rintro e w2 ⟨rfl, ho2⟩
    have HS2 := Lib.hid (HS1.out.quiet ho2.out)
    clear HS1 HF ho2
    obtain ⟨a0, a1, a2, a3, a4, a5⟩ := HS2.out.scells
    obtain ⟨o0, o1, o2⟩ := HS2.out.ocells
    obtain ⟨⟨r0, r1, r2, r3, r4, r5⟩, rf⟩ := HS2.out.ra.c
    simp only at o0 o1 o2
    go_wp2
    exact bodyPost_ret (ret24 (six_heap HS2.out.ra)) rfl (HS2.out.same HP.out (six_oth (Oth.refl _ _) (.inl (by simp))))
end Go.Proofs.Ythllilkafdgheaa
