/- The walk of (*solver).best. No condition. -/
import Derived.Test.YtnpdcjdmbkcpbaaGreatGd
import Derived.Test.YtnpdcjdmbkcpbaaGreatHa
namespace Go.Proofs.YtnpdcjdmbkcpbaaGreat.Ins
open Go.RowKit
set_option linter.unusedVariables false
set_option linter.unusedSimpArgs false

/-- While best looks. -/
structure BR (C : Par) (K : List Nat) (w : World) (l r : Nat) (wr : World) : Prop where
  s : Slv C K wr
  oth : Oth [C.mb] w wr
  b0 : wr.cell? ⟨w.heap.size, 0, none⟩ = some (.int .i64 l)
  b1 : wr.cell? ⟨w.heap.size, 1, none⟩ = some (.int .i64 r)
theorem BR.step {C : Par} {K : List Nat} {w wr wr' : World} {l r : Nat} (h : BR C K w l r wr) (hm : C.mb < w.heap.size) (hs : Slv C K wr') (ho : Oth [C.mb] wr wr') : BR C K w l r wr' :=
  ⟨hs, h.oth.trans ho (Fr.refl _ _), ho.cell h.b0 (by simp; omega), ho.cell h.b1 (by simp; omega)⟩
theorem BR.call {C : Par} {K : List Nat} {w wr wr' : World} {l r : Nat} (h : BR C K w l r wr) (hm : C.mb < w.heap.size) (ho : Oth [] wr wr') : BR C K w l r wr' :=
  h.step hm (h.s.oth ho (by simp)) (ho.mono (by simp))
theorem BR.S {C : Par} {K : List Nat} {w wr : World} {l r : Nat} (h : BR C K w l r wr) : BR C K w l r wr ∧ wr.cell? ⟨C.p, 0, none⟩ = some (.slice (some ⟨C.g1, 0, none⟩) C.ws.length C.c1) ∧ wr.cell? ⟨C.p, 1, none⟩ = some (.slice (some ⟨C.g2, 0, none⟩) C.cs.length C.c2) ∧ wr.cell? ⟨w.heap.size, 0, none⟩ = some (.int .i64 l) ∧ wr.cell? ⟨w.heap.size, 1, none⟩ = some (.int .i64 (r : Int)) :=
  ⟨h, h.s.sol.at_.1, h.s.sol.at_.2.1, h.b0, h.b1⟩
theorem br_init {C : Par} {K : List Nat} {w : World} {l r : Nat} (h : Slv C K w) : BR C K w l r (w.alloc (.cells #[.int .i64 l, .int .i64 r] 103)) := by
  have ho : Oth [] w (w.alloc (.cells #[.int .i64 l, .int .i64 r] 103)) := (Oth.refl _ _).alloc _
  obtain ⟨k1, k2⟩ := box1_keep (w := w) (a := .int .i64 l) (b := .int .i64 r) (t1 := 103) (S := []) (by simp) (Oth.refl _ _)
  exact ⟨h.oth ho (by simp), ho.mono (by simp), k1, k2⟩

theorem BR.S0 {C : Par} {K : List Nat} {w wr : World} {l r : Nat} (h : BR C K w l r wr) : BR C K w l r wr ∧ wr.cell? ⟨w.heap.size, 0, none⟩ = some (.int .i64 l) ∧ wr.cell? ⟨w.heap.size, 1, none⟩ = some (.int .i64 (r : Int)) := ⟨h, h.b0, h.b1⟩
theorem br_keep {C : Par} {K : List Nat} {w wr wr' : World} {l r : Nat} (hm : C.mb < w.heap.size) (h : BR C K w l r wr ∧ wr.cell? ⟨w.heap.size, 0, none⟩ = some (.int .i64 l) ∧ wr.cell? ⟨w.heap.size, 1, none⟩ = some (.int .i64 (r : Int))) (hs : Slv C K wr') (ho : Oth [C.mb] wr wr') :
    BR C K w l r wr' ∧ wr'.cell? ⟨w.heap.size, 0, none⟩ = some (.int .i64 l) ∧ wr'.cell? ⟨w.heap.size, 1, none⟩ = some (.int .i64 (r : Int)) := (h.1.step hm hs ho).S0

/-- A split that is as good as the least. -/
def Att (C : Par) (l r m i : Nat) : Prop := ned C l r i ≤ m ∧ vl C l r m = cst C.cs l (i + 1) + vl C (l + 1 + i) r (m - C.ws.getD (l + 1 + i) 0) + vl C l (l + 1 + i) m
def BestPost (C : Par) (K : List Nat) (l r m : Nat) (w : World) (e : Ending) (w' : World) : Prop :=
  ∃ i, l + 1 + i < r ∧ Att C l r m i ∧ e = .returned (.int .i64 ((l + 1 + i : Nat) : Int)) ∧ Slv C K w' ∧ Oth [C.mb] w w'
theorem best_post {C : Par} {K : List Nat} {l r m kq j : Nat} {w w' : World} (hk : kq = l + j) (hr : kq + 1 < r) (ha : Att C l r m j) (h : BR C K w l r w') : BestPost C K l r m w (.returned (.int .i64 ((kq : Int) + 1))) w' :=
  ⟨j, by omega, ha, by congr 2; omega, h.s, h.oth⟩

set_option maxRecDepth 100000 in
set_option maxHeartbeats 20000000 in
theorem best_any {C : Par} {K : List Nat} {w : World} {l r m : Nat} (hG : Good C) (hR : Rec C) (h : Slv C K w) (hl : l + 1 < r) (hr : r ≤ C.cs.length) (hm : m < C.cap + 1 - kp C.ws l) (hv : vl C l r m < nn) :
    Calls Tryz.prog 82 #[.pointer (some ⟨C.p, 0, none⟩), .agg #[.int .i64 l, .int .i64 r], .int .i64 m] w (BestPost C K l r m w) := by
  have hex : ∃ i, l + 1 + i < r ∧ Att C l r m i := by
    obtain ⟨i, h1, h2, h3⟩ := vl_att hR hl hr hm hv
    exact ⟨i, h1, h2, h3⟩
  have HEX := Lib.hid hex
  obtain ⟨b1, b2, b3, b4, b5, b6, b7⟩ := h.base
  have hmb := h.old _ b4
  have hp := h.old _ b1
  have hwl : C.ws.length = C.cs.length + 1 := hG.n1
  have hcl : C.cs.length ≤ 64 := hG.n2.2
  have hcap := hG.cap
  have hlen := hG.vl l r (by omega) hr
  have hfd := field97
  obtain ⟨U, hU⟩ : ∃ a, a = vl C l r m := ⟨_, rfl⟩
  have hUb : U ≤ 1152921504606846976 := by rw [hU]; exact hG.vb l r m
  obtain ⟨nV, hnV⟩ : ∃ a, a = (C.V l r).length := ⟨_, rfl⟩
  have HVAL : Hid (∀ a b, a < b → b ≤ C.cs.length → VS C a b) := fun a b h1 h2 => values_any hG hR _ a b rfl h1 h2
  have HV1 : Hid (∀ w', Slv C K w' → Calls Tryz.prog 31 #[.pointer (some ⟨C.p, 0, none⟩), .agg #[.int .i64 l, .int .i64 r]] w' fun e w2 =>
      ∃ g c : Nat, e = .returned (.agg #[.slice (some ⟨g, 0, none⟩) nV c]) ∧ Slv C K w2 ∧ Oth [C.mb] w' w2 ∧ w2.cell? ⟨g, m, none⟩ = some (.int .i64 U)) := by
    intro w' hs
    refine (HVAL.out l r (by omega) hr K w' hs).mono ?_
    rintro e w2 ⟨g, c, rfl, k1, k2, k3, k4⟩
    exact ⟨g, c, by rw [hnV], k1, k2, by rw [hU]; exact k3.at_ (by omega)⟩
  have t1 : (m : Int) < nV := by omega
  have e1 : IntKind.i64.wrap ((l : Int) + 1) = (l : Int) + 1 := IntWalk.i64_in _ (by omega)
  have HB := Lib.hid (br_init (l := l) (r := r) h)
  have HU := Lib.hid hU
  have HNV := Lib.hid hnV
  have HR := Lib.hid hR
  have HG := Lib.hid hG
  have HWL := Lib.hid hwl
  have HLEN := Lib.hid hlen
  clear hex hU hnV hR hG h b1 b2 b3 b4 b5 b6 b7 hwl hlen hv
  go_enter Tryz.func82, Tryz.ntmps82
  go_wp2_with ((with_reducible refine (HV1.out _ HB.out.s).mono ?_); rintro e w' ⟨g, c, rfl, k1, k2, k3⟩; have HB2 := Lib.hid (HB.out.step hmb k1 k2); clear k1 k2; have bb0 := HB2.out.b0; have bb1 := HB2.out.b1)
  clear k3
  have HSTEP : Hid (∀ w' (kq : Nat), BR C K w l r w' → l ≤ kq → kq + 1 < r → Calls Tryz.prog 78 #[.agg #[.slice (some ⟨C.g1, 0, none⟩) C.ws.length C.c1, .slice (some ⟨C.g2, 0, none⟩) C.cs.length C.c2], .agg #[.int .i64 l, .int .i64 r], .int .i64 ((kq : Int) + 1)] w' fun e w2 => e = .returned (.int .i64 (stp C.ws C.cs.length l r (kq + 1) : Nat)) ∧ Oth [] w' w2) :=
    fun w' kq hv h1 h2 => step_all (k := kq + 1) hv.s.ws (by omega) h2 (by have h7 := HWL.out; omega) (by have h7 := HWL.out; omega) (fun i hi => (HG.out.wb i hi).2)
  go_loopw [8, 9, 10] (fun x y z wr => ∃ j kq : Nat, kq = l + j ∧ kq + 1 ≤ r ∧ x = .int .i64 ((mny C l r j).1 : Nat) ∧ y = .int .i64 (cst C.cs l j : Nat) ∧ z = .int .i64 ((kq : Int) + 1) ∧ BR C K w l r wr ∧ ∀ i, i < j → ¬ Att C l r m i) (fun _ _ z _ => r - (intOf z).toNat)
  case atStart => exact ⟨0, l, by omega, by omega, rfl, rfl, rfl, HB2.out, fun i hi => by omega⟩
  case round =>
    obtain ⟨j, kq, hkq, hkr, rfl, rfl, rfl, hb, hna⟩ := hrel
    have hlt : kq + 1 < r := by
      obtain ⟨i, h1, h2⟩ := HEX.out
      rcases Nat.lt_or_ge i j with h3 | h3
      · exact absurd h2 (hna i h3)
      · omega
    have hnm : ned C l r j ≤ m := by
      obtain ⟨i, h1, h2⟩ := HEX.out
      rcases Nat.lt_or_ge i j with h3 | h3
      · exact absurd h2 (hna i h3)
      · exact Nat.le_trans (ned_mono C l r j i h3) h2.1
    have hnext : ned C l r j = max (mny C l r j).1 (stp C.ws C.cs.length l r (kq + 1)) := by rw [hkq, show l + j + 1 = l + 1 + j by omega]; rfl
    have hcn : cst C.cs l (j + 1) = cst C.cs l j + C.cs.getD kq 0 := by rw [cst, hkq]
    have hct := mny_cost C HG.out l r j (by omega)
    rw [mny_cst] at hct
    have hst := stp_le C HG.out l r (kq + 1) hlt hr
    have hsn := ned_step C l r j
    rw [show l + 1 + j = kq + 1 by omega] at hsn
    have hsw : C.ws.getD (kq + 1) 0 ≤ stp C.ws C.cs.length l r (kq + 1) := by unfold stp; omega
    have hcc := HG.out.cb kq (by omega)
    have hjl : j ≤ 64 := by omega
    have hdec : Att C l r m j ↔ U = cst C.cs l (j + 1) + vl C (kq + 1) r (m - C.ws.getD (kq + 1) 0) + vl C l (kq + 1) m := by
      unfold Att
      rw [show l + 1 + j = kq + 1 by omega, HU.out]
      exact ⟨fun h => h.2, fun h => ⟨hnm, h⟩⟩
    have hwk : C.ws.getD (kq + 1) 0 ≤ m := by omega
    have b7 := HG.out.vb (kq + 1) r (m - C.ws.getD (kq + 1) 0)
    have b8 := HG.out.vb l (kq + 1) m
    have lR := HG.out.vl (kq + 1) r hlt hr
    have lL := HG.out.vl l (kq + 1) (by omega) (by omega)
    have hkp : kp C.ws (kq + 1) = C.ws.getD (kq + 1) 0 := by unfold kp; rw [if_neg (by omega)]
    have hwb := (HG.out.wb (kq + 1) (by have := HWL.out; omega)).2
    have hcell0 : C.ws[kq + 1]? = some (C.ws.getD (kq + 1) 0) := by
      have h9 : kq + 1 < C.ws.length := by have := HWL.out; omega
      rw [List.getElem?_eq_getElem h9, List.getD_eq_getElem?_getD, List.getElem?_eq_getElem h9]; rfl
    obtain ⟨nd, hN⟩ : ∃ a, a = (mny C l r j).1 := ⟨_, rfl⟩
    obtain ⟨ct, hC⟩ : ∃ a, a = cst C.cs l j := ⟨_, rfl⟩
    obtain ⟨st, hS⟩ : ∃ a, a = stp C.ws C.cs.length l r (kq + 1) := ⟨_, rfl⟩
    obtain ⟨wk, hW⟩ : ∃ a, a = C.ws.getD (kq + 1) 0 := ⟨_, rfl⟩
    obtain ⟨cc, hCC⟩ : ∃ a, a = C.cs.getD kq 0 := ⟨_, rfl⟩
    have HST : Hid (∀ w', BR C K w l r w' → Calls Tryz.prog 78 #[.agg #[.slice (some ⟨C.g1, 0, none⟩) C.ws.length C.c1, .slice (some ⟨C.g2, 0, none⟩) C.cs.length C.c2], .agg #[.int .i64 l, .int .i64 r], .int .i64 ((kq : Int) + 1)] w' fun e w2 => e = .returned (.int .i64 (st : Nat)) ∧ Oth [] w' w2) := by
      rw [hS]; exact fun w' hv => HSTEP.out w' kq hv (by omega) hlt
    rw [← hN] at hnext ⊢
    rw [← hC] at hct hcn ⊢
    rw [← hS] at hnext hst hsw hsn
    rw [← hCC] at hcc hcn
    rw [hkp] at lR
    rw [← hW] at hdec hwk b7 lR hwb hsw
    rw [hcn] at hdec
    have hmax : (if nd < st then (st : Int) else nd) = ((max nd st : Nat) : Int) := by split <;> omega
    obtain ⟨nd', hnd'⟩ : ∃ a, a = max nd st := ⟨_, rfl⟩
    rw [← hnd'] at hnext hmax
    rw [hnext] at hnm
    have t2 : (kq : Int) + 1 < r := by omega
    have t3 : ¬ (m : Int) < nd' := by omega
    have t4 : (kq : Int) < C.cs.length := by omega
    have t5 : (kq : Int) + 1 < C.ws.length := by have := HWL.out; omega
    have e5 : IntKind.i64.wrap (kq : Int) = kq := IntWalk.i64_in _ (by omega)
    have e6 : IntKind.i64.wrap ((ct : Int) + cc) = ct + cc := IntWalk.i64_in _ (by omega)
    have e7 : IntKind.i64.wrap ((kq : Int) + 1 + 1) = kq + 1 + 1 := IntWalk.i64_in _ (by omega)
    have HBR := Lib.hid hb
    have HCELL : Hid (∀ w', BR C K w l r w' → w'.cell? ⟨C.g2, kq, none⟩ = some (.int .i64 (cc : Nat))) := fun w' hv => by rw [hCC]; exact hv.s.cs.at_ (by omega)
    have HCELW : Hid (∀ w', BR C K w l r w' → w'.cell? ⟨C.g1, kq + 1, none⟩ = some (.int .i64 (wk : Nat))) := fun w' hv => by rw [hW]; exact hv.s.ws _ _ hcell0
    have HKQ := Lib.hid hkq
    have HNA := Lib.hid hna
    have HNEXT := Lib.hid hnext
    have HCN := Lib.hid hcn
    have HDEC := Lib.hid hdec
    have HNN : Hid ((mny C l r (j + 1)).1 = nd') := hnext
    obtain ⟨X, hX⟩ : ∃ a, a = vl C (kq + 1) r (m - wk) := ⟨_, rfl⟩
    obtain ⟨Y, hY⟩ : ∃ a, a = vl C l (kq + 1) m := ⟨_, rfl⟩
    have b7' : X ≤ 1152921504606846976 := by rw [hX]; exact b7
    have b8' : Y ≤ 1152921504606846976 := by rw [hY]; exact b8
    have HX := Lib.hid hX
    have HY := Lib.hid hY
    obtain ⟨d, hd⟩ : ∃ d, d = m - wk := ⟨_, rfl⟩
    have e8 : IntKind.i64.wrap ((m : Int) - wk) = d := by rw [show (m : Int) - wk = d by omega]; exact IntWalk.i64_in _ (by omega)
    obtain ⟨nR, hnR⟩ : ∃ a, a = (C.V (kq + 1) r).length := ⟨_, rfl⟩
    obtain ⟨nL, hnL⟩ : ∃ a, a = (C.V l (kq + 1)).length := ⟨_, rfl⟩
    have t6 : (d : Int) < nR := by omega
    have t7 : (m : Int) < nL := by omega
    have e9 : IntKind.i64.wrap ((ct : Int) + cc + X) = ct + cc + X := IntWalk.i64_in _ (by omega)
    have e10 : IntKind.i64.wrap ((ct : Int) + cc + X + Y) = ct + cc + X + Y := IntWalk.i64_in _ (by omega)
    have HD := Lib.hid hd
    have HVX : Hid (∀ w', Slv C K w' → Calls Tryz.prog 31 #[.pointer (some ⟨C.p, 0, none⟩), .agg #[.int .i64 ((kq : Int) + 1), .int .i64 r]] w' fun e w2 =>
      ∃ g c : Nat, e = .returned (.agg #[.slice (some ⟨g, 0, none⟩) nR c]) ∧ Slv C K w2 ∧ Oth [C.mb] w' w2 ∧ w2.cell? ⟨g, d, none⟩ = some (.int .i64 X) ∧ g ≠ C.mb) := by
      intro w' hs
      refine (HVAL.out (kq + 1) r hlt hr K w' hs).mono ?_
      rintro e w2 ⟨g, c, rfl, k1, k2, k3, k4, k5⟩
      exact ⟨g, c, by rw [hnR], k1, k2, by rw [hX, ← hd]; exact k3.at_ (by omega), fun e => k5 (e ▸ k1.base.2.2.2.1)⟩
    have HVY : Hid (∀ w', Slv C K w' → Calls Tryz.prog 31 #[.pointer (some ⟨C.p, 0, none⟩), .agg #[.int .i64 l, .int .i64 ((kq : Int) + 1)]] w' fun e w2 =>
      ∃ g c : Nat, e = .returned (.agg #[.slice (some ⟨g, 0, none⟩) nL c]) ∧ Slv C K w2 ∧ Oth [C.mb] w' w2 ∧ w2.cell? ⟨g, m, none⟩ = some (.int .i64 Y) ∧ g ≠ C.mb) := by
      intro w' hs
      refine (HVAL.out l (kq + 1) (by omega) (by omega) K w' hs).mono ?_
      rintro e w2 ⟨g, c, rfl, k1, k2, k3, k4, k5⟩
      exact ⟨g, c, by rw [hnL], k1, k2, by rw [hY]; exact k3.at_ (by omega), fun e => k5 (e ▸ k1.base.2.2.2.1)⟩
    clear hN hC hS hW hCC hb hkq hna hnext hcn hdec hX hY hnR hnL hd b7 b8 lR lL hkp hsn hnd' hcell0
    have a1 := HBR.out.b0
    have a2 := HBR.out.b1
    go_wp2_with fail
    go_region_held3 (fun w' => BR C K w l r w' ∧ w'.cell? ⟨C.p, 0, none⟩ = some (.slice (some ⟨C.g1, 0, none⟩) C.ws.length C.c1) ∧ w'.cell? ⟨C.p, 1, none⟩ = some (.slice (some ⟨C.g2, 0, none⟩) C.cs.length C.c2) ∧ w'.cell? ⟨w.heap.size, 0, none⟩ = some (.int .i64 l) ∧ w'.cell? ⟨w.heap.size, 1, none⟩ = some (.int .i64 (r : Int)))
      (first | exact (HBR.out.call hmb (Oth.refl _ _).drew).S | exact ((HBR.out.call hmb (Oth.refl _ _).drew).call hmb ho).S)
      (first | (go_at_call 78; refine (HST.out _ (HBR.out.call hmb (Oth.refl _ _).drew)).mono ?_; rintro e w' ⟨rfl, ho⟩))
    rename_i hh
    obtain ⟨hv1, s0, s1, b0, b1⟩ := hh
    have c1 := HCELL.out _ hv1
    have HBS := Lib.hid hv1
    clear hv1 hmax ho
    go_wp2_with fail
    clear c1 s0 s1 b0 b1
    go_region_held3 (fun w' => BR C K w l r w' ∧ w'.cell? ⟨w.heap.size, 0, none⟩ = some (.int .i64 l) ∧ w'.cell? ⟨w.heap.size, 1, none⟩ = some (.int .i64 (r : Int)))
      (first | exact (HBS.out.call hmb (Oth.refl _ _).drew).S0 | exact br_keep hmb (by assumption) k1 k2)
      (first | (go_at_call 31; (with_reducible refine (HVX.out _ (by first | exact (HBS.out.call hmb (Oth.refl _ _).drew).s | exact k1)).mono ?_); rintro e w' ⟨gX, cX, rfl, k1, k2, k3, k4⟩) | (go_at_call 31; (with_reducible refine (HVY.out _ (by first | exact (HBS.out.call hmb (Oth.refl _ _).drew).s | exact k1)).mono ?_); rintro e w' ⟨gX, cX, rfl, k1, k2, k3, k4⟩))
    rename_i w1 gQ cQ q1 q2 q3 q4 hh
    have q3' := k2.cell q3 (by simpa using q4)
    obtain ⟨hv1, b0, b1⟩ := hh
    obtain ⟨_, s0, s1, _, _⟩ := hv1.S
    have c2 := HCELW.out _ hv1
    have HBE := Lib.hid hv1
    clear q1 q2 q3 q4 k1 k2 k4 hv1
    by_cases hq : U = ct + cc + X + Y
    · have hq' : (ct : Int) + cc + X + Y = U := by omega
      have hatt : Att C l r m j := by rw [HDEC.out, hq, HX.out, HY.out]
      have HATT := Lib.hid hatt
      clear hq hatt
      go_wp2_with fail
      go_quiet (fail)
      go_wp2_with fail
      go_ret
      exact best_post HKQ.out hlt HATT.out (HBE.out.call hmb ((Oth.refl _ _).drewN _))
    · have hq' : ¬ (ct : Int) + cc + X + Y = U := by omega
      have hatt : ¬ Att C l r m j := by rw [HDEC.out, ← HX.out, ← HY.out]; exact hq
      have HATT := Lib.hid hatt
      clear hq hatt
      go_wp2_with fail
      go_quiet (fail)
      go_wp2_with fail
      go_roundw
      case rel => exact ⟨j + 1, kq + 1, by have := HKQ.out; omega, by omega, by rw [HNN.out], by rw [HCN.out]; go_num, by go_num, HBE.out.call hmb ((Oth.refl _ _).drewN _), fun i hi => by
        rcases Nat.lt_or_ge i j with h3 | h3
        · exact HNA.out i h3
        · obtain rfl : i = j := by omega
          exact HATT.out⟩
      case measure => simp [intOf]; omega
end Go.Proofs.YtnpdcjdmbkcpbaaGreat.Ins
