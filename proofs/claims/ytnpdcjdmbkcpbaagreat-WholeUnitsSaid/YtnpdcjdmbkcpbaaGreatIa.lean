/- The walks of package chain: Right, check, newSolver. The walks of package chain: newSolver, Least, Plan. The walk of (Chain).Plan. No condition. -/
import Derived.Test.YtnpdcjdmbkcpbaaGreatHe
import Derived.Carry
import Derived.Deep.RegionWith
import Derived.Deep.Cut
namespace Go.Proofs.YtnpdcjdmbkcpbaaGreat.Ins
open Go.RowKit
set_option linter.unusedVariables false
set_option linter.unusedSimpArgs false

section
variable {w : World}
theorem safeRight_any {x : Nat} (h : x ≤ 1099511627776) : Calls Tryz.prog 83 #[.int .i64 x] w fun e w' => e = .returned (.bool true) ∧ w' = w := by
  have t1 : (x : Int) ≤ 1099511627776 := by omega
  go_enter Tryz.func83, Tryz.ntmps83
  go_wp2
  go_ret
  exact ⟨rfl, rfl⟩

theorem safe_at {x : Nat} {y : Int} (h : x ≤ 1099511627776) (hy : y = x) : Calls Tryz.prog 83 #[.int .i64 y] w fun e w' => e = .returned (.bool true) ∧ w' = w := by
  subst hy; exact safeRight_any h

def cbox (g1 c1 n1 g2 c2 n2 : Nat) (w : World) : World := w.alloc (.cells #[.slice (some ⟨g1, 0, none⟩) n1 c1, .slice (some ⟨g2, 0, none⟩) n2 c2] 42)
theorem cbox_at (g1 c1 n1 g2 c2 n2 : Nat) {w w' : World} (h : Oth [] (cbox g1 c1 n1 g2 c2 n2 w) w') : w'.cell? ⟨w.heap.size, 0, none⟩ = some (.slice (some ⟨g1, 0, none⟩) n1 c1) ∧ w'.cell? ⟨w.heap.size, 1, none⟩ = some (.slice (some ⟨g2, 0, none⟩) n2 c2) :=
  box1_keep (by simp) h
theorem cbox_oth {g1 c1 n1 g2 c2 n2 : Nat} {w w' : World} (h : Oth [] (cbox g1 c1 n1 g2 c2 n2 w) w') : Oth [] w w' := ((Oth.refl _ _).alloc _).trans h (Fr.nil _ _)

set_option maxHeartbeats 4000000 in
theorem right_any {g1 c1 g2 c2 : Nat} {ws cs : List Nat} {cap : Nat} (hf : Fine ws cs cap) (h1 : Ints g1 ws w) (h2 : Ints g2 cs w) :
    Calls Tryz.prog 33 #[.agg #[.slice (some ⟨g1, 0, none⟩) ws.length c1, .slice (some ⟨g2, 0, none⟩) cs.length c2]] w fun e w' => e = .returned (.bool true) ∧ Oth [] w w' := by
  have n1 := hf.n1
  have n2 := hf.n2
  have t1 : ¬ (cs.length : Int) < 1 := by omega
  have t2 : ¬ (cs.length : Int) > 64 := by omega
  have t3 : ((ws.length : Int) == (cs.length : Int) + 1) = true := by simp; omega
  have t4 : ((ws.length : Int) != (cs.length : Int) + 1) = false := by simp; omega
  have e1 : IntKind.i64.wrap ((cs.length : Int) + 1) = (cs.length : Int) + 1 := IntWalk.i64_in _ (by omega)
  have HF := Lib.hid hf
  have H1 := Lib.hid h1
  have H2 := Lib.hid h2
  clear hf h1 h2
  go_enter Tryz.func33, Tryz.ntmps33
  go_wp2_with fail
  go_loopw [28] (fun x wr => ∃ m : Nat, m ≤ cs.length + 1 ∧ x = .int .i64 m ∧ Oth [] (cbox g1 c1 (cs.length + 1) g2 c2 cs.length w) wr) (fun x _ => cs.length + 1 - (intOf x).toNat)
  case atStart => exact ⟨0, by omega, rfl, Oth.refl _ _⟩
  case round =>
    obtain ⟨m, hm, rfl, ho⟩ := hrel
    by_cases hlt : m < cs.length + 1
    · have t5 : (m : Int) < (cs.length : Int) + 1 := by omega
      have a1 := (cbox_oth ho).cell (H1.out.at_ (i := m) (by omega)) (by simp)
      obtain ⟨x, hx⟩ : ∃ x, x = ws.getD m 0 := ⟨_, rfl⟩
      obtain ⟨b1, b2⟩ := HF.out.wb m (by omega)
      rw [← hx] at a1 b1 b2
      have t6 : ¬ (x : Int) < 1 := by omega
      have t7 : ¬ (x : Int) > 65536 := by omega
      have HO := Lib.hid ho
      clear ho hx
      go_wp2_with fail
      go_roundw
      case rel => exact ⟨m + 1, by omega, by go_num, HO.out⟩
      case measure => simp [intOf]; omega
    · obtain rfl : m = cs.length + 1 := by omega
      have t5 : ¬ (cs.length : Int) + 1 < (cs.length : Int) + 1 := by omega
      obtain ⟨k1, k2⟩ := cbox_at _ _ _ _ _ _ ho
      have HO := Lib.hid ho
      clear ho
      go_wp2_with fail
      clear k1 k2
      go_loopw [42] (fun x wr => ∃ m : Nat, m ≤ cs.length ∧ x = .int .i64 m ∧ Oth [] w wr) (fun x _ => cs.length - (intOf x).toNat)
      case atStart => exact ⟨0, by omega, rfl, cbox_oth HO.out⟩
      case round =>
        obtain ⟨m, hm, rfl, ho⟩ := hrel
        by_cases hlt : m < cs.length
        · have t5 : (m : Int) < (cs.length : Int) := by omega
          have a1 := ho.cell (H2.out.at_ (i := m) (by omega)) (by simp)
          obtain ⟨x, hx⟩ : ∃ x, x = cs.getD m 0 := ⟨_, rfl⟩
          have b1 := HF.out.cb m (by omega)
          rw [← hx] at a1 b1
          have HO := Lib.hid ho
          clear ho hx
          go_wp2_with ((with_reducible refine (safe_at (x := x) b1 (by omega)).mono ?_); rintro e w2 ⟨rfl, rfl⟩)
          go_roundw
          case rel => exact ⟨m + 1, by omega, by go_num, HO.out⟩
          case measure => simp [intOf]; omega
        · obtain rfl : m = cs.length := by omega
          have t5 : ¬ (cs.length : Int) < (cs.length : Int) := by omega
          have HO := Lib.hid ho
          clear ho
          go_wp2_with fail
          go_ret
          exact ⟨rfl, HO.out⟩

set_option maxHeartbeats 4000000 in
theorem check_any {g1 c1 g2 c2 : Nat} {ws cs : List Nat} {cap : Nat} (hf : Fine ws cs cap) (hc : cap ≤ 4096) (h1 : Ints g1 ws w) (h2 : Ints g2 cs w) :
    Calls Tryz.prog 29 #[.agg #[.slice (some ⟨g1, 0, none⟩) ws.length c1, .slice (some ⟨g2, 0, none⟩) cs.length c2], .int .i64 cap] w fun e w' => e = .returned (.int .i64 0) ∧ Oth [] w w' := by
  have t1 : ¬ (cap : Int) < 0 := by omega
  have t2 : ¬ (cap : Int) > 4096 := by omega
  have HR : Hid (∀ w', Oth [] w w' → Calls Tryz.prog 33 #[.agg #[.slice (some ⟨g1, 0, none⟩) ws.length c1, .slice (some ⟨g2, 0, none⟩) cs.length c2]] w' fun e w2 => e = .returned (.bool true) ∧ Oth [] w' w2) := fun w' ho => right_any hf (h1.oth ho (by simp)) (h2.oth ho (by simp))
  clear hf h1 h2
  go_enter Tryz.func29, Tryz.ntmps29
  go_wp2_with (refine (HR.out _ ((Oth.refl [] w).alloc _)).mono ?_; rintro e w' ⟨rfl, ho⟩)
  go_ret
  exact ⟨rfl, ((Oth.refl _ _).alloc _).trans ho (Fr.nil _ _)⟩
end
end Go.Proofs.YtnpdcjdmbkcpbaaGreat.Ins

namespace Go.Proofs.YtnpdcjdmbkcpbaaGreat.Ins
open Go.RowKit
set_option linter.unusedVariables false
set_option linter.unusedSimpArgs false
open Go.WideElems (Fit)

section
variable {w : World}
def wsum (ws : List Nat) : Nat → Nat
  | 0 => 0
  | j + 1 => wsum ws j + 2 * ws.getD (j + 1) 0
theorem fit_none : Fit Tryz.prog 103 R0 #[] 0 := ⟨by simp, ⟨fun _ h => by simp at h, by simp, by simp⟩, fun _ h => by simp at h⟩
theorem wsum_le {ws cs : List Nat} {cap : Nat} (hf : Fine ws cs cap) : ∀ j, j < ws.length → wsum ws j ≤ j * 131072
  | 0, _ => by simp [wsum]
  | j + 1, h => by
    have := wsum_le hf j (by omega)
    have := (hf.wb (j + 1) h).2
    rw [wsum]; omega

theorem Ints.lt {g : Nat} {xs : List Nat} (h : Ints g xs w) (hx : 0 < xs.length) : g < w.heap.size := World.block_lt_of_cell? w _ (h.at_ hx)
/-- The numbers of a solver. -/
def par (p g1 c1 g2 c2 mb cap : Nat) (ws cs : List Nat) : Par := Par.full { p := p, g1 := g1, c1 := c1, g2 := g2, c2 := c2, mb := mb, cap := cap, ws := ws, cs := cs, V := fun _ _ => [] }
def SolPost (w : World) (g1 c1 g2 c2 cap : Nat) (ws cs : List Nat) (e : Ending) (w' : World) : Prop :=
  ∃ p mb, e = .returned (.pointer (some ⟨p, 0, none⟩)) ∧ Oth [] w w' ∧ w.heap.size ≤ p ∧ w.heap.size ≤ mb ∧ Slv (par p g1 c1 g2 c2 mb (min cap (wsum ws cs.length)) ws cs) [p, g1, g2, mb] w'
theorem slv_new {g1 c1 g2 c2 cap : Nat} {ws cs : List Nat} {wr : World} (ho : Oth [] w wr) (h1 : Ints g1 ws w) (h2 : Ints g2 cs w) (hl1 : 0 < ws.length) (hl2 : 0 < cs.length) :
    SolPost w g1 c1 g2 c2 cap ws cs (.returned (.pointer (some ⟨wr.heap.size + 1, 0, none⟩))) ((wr.alloc (.map #[] 0)).alloc (.cells #[.slice (some ⟨g1, 0, none⟩) ws.length c1, .slice (some ⟨g2, 0, none⟩) cs.length c2, .int .i64 cs.length, .int .i64 (min cap (wsum ws cs.length) : Nat), .map (some wr.heap.size)] 101)) := by
  have l1 := h1.lt hl1
  have l2 := h2.lt hl2
  have hs := ho.size
  have o2 : Oth [] wr ((wr.alloc (.map #[] 0)).alloc (.cells #[.slice (some ⟨g1, 0, none⟩) ws.length c1, .slice (some ⟨g2, 0, none⟩) cs.length c2, .int .i64 cs.length, .int .i64 (min cap (wsum ws cs.length) : Nat), .map (some wr.heap.size)] 101)) := ((Oth.refl _ _).alloc _).alloc _
  have o3 := ho.trans o2 (Fr.nil _ _)
  have k1 := heap_alloc_new (wr.alloc (.map #[] 0)) (.cells #[.slice (some ⟨g1, 0, none⟩) ws.length c1, .slice (some ⟨g2, 0, none⟩) cs.length c2, .int .i64 cs.length, .int .i64 (min cap (wsum ws cs.length) : Nat), .map (some wr.heap.size)] 101)
  have k2 := ((Oth.refl [] (wr.alloc (.map #[] 0))).alloc (.cells #[.slice (some ⟨g1, 0, none⟩) ws.length c1, .slice (some ⟨g2, 0, none⟩) cs.length c2, .int .i64 cs.length, .int .i64 (min cap (wsum ws cs.length) : Nat), .map (some wr.heap.size)] 101)).heap (heap_alloc_new wr (.map #[] 0)) (by simp)
  refine ⟨_, _, rfl, o3, by omega, hs, ⟨by rw [World.size_alloc] at k1; exact k1, h1.oth o3 (by simp), h2.oth o3 (by simp), ⟨#[], 0, k2, fit_none, by simp⟩, ?_, ?_⟩⟩
  · refine ⟨?_, ?_, ?_, ?_, ?_, ?_, ?_⟩ <;> simp [par, Par.full] <;> omega
  · intro k hk
    simp at hk
    simp
    omega

set_option maxRecDepth 100000 in
set_option maxHeartbeats 4000000 in
theorem newSolver_any {g1 c1 g2 c2 : Nat} {ws cs : List Nat} {cap : Nat} (hf : Fine ws cs cap) (hc : cap ≤ 4096) (hc1 : ws.length ≤ c1) (hc2 : c1 ≤ maxLen) (h1 : Ints g1 ws w) (h2 : Ints g2 cs w) :
    Calls Tryz.prog 30 #[.agg #[.slice (some ⟨g1, 0, none⟩) ws.length c1, .slice (some ⟨g2, 0, none⟩) cs.length c2], .int .i64 cap] w fun e w' => SolPost w g1 c1 g2 c2 cap ws cs e w' := by
  have n1 := hf.n1
  have n2 := hf.n2
  have HN1 := Lib.hid n1
  have HF := Lib.hid hf
  have H1 := Lib.hid h1
  have H2 := Lib.hid h2
  clear hf h1 h2
  go_enter Tryz.func30, Tryz.ntmps30
  go_wp2_with fail
  go_loopw [5, 12] (fun x y wr => ∃ m : Nat, m ≤ cs.length ∧ x = .int .i64 (wsum ws m : Nat) ∧ y = .int .i64 m ∧ Oth [] (cbox g1 c1 (cs.length + 1) g2 c2 cs.length w) wr) (fun _ y _ => cs.length - (intOf y).toNat)
  case atStart => exact ⟨0, by omega, rfl, rfl, Oth.refl _ _⟩
  case round =>
    obtain ⟨m, hm, rfl, rfl, ho⟩ := hrel
    have hws := wsum_le HF.out m (by omega)
    by_cases hlt : m < cs.length
    · have t5 : (m : Int) < (cs.length : Int) := by omega
      have a1 := (cbox_oth ho).cell (H1.out.at_ (i := m + 1) (by omega)) (by simp)
      have hb := (HF.out.wb (m + 1) (by omega)).2
      have hnx : wsum ws (m + 1) = wsum ws m + 2 * ws.getD (m + 1) 0 := rfl
      obtain ⟨x, hx⟩ : ∃ x, x = ws.getD (m + 1) 0 := ⟨_, rfl⟩
      rw [← hx, show m + 1 = 1 + m by omega] at a1
      rw [← hx] at hb hnx
      have t6 : IntKind.i64.wrap (2 * (x : Int)) = 2 * (x : Int) := IntWalk.i64_in _ (by omega)
      have t7 : IntKind.i64.wrap ((wsum ws m : Nat) + 2 * (x : Int)) = (wsum ws m : Nat) + 2 * (x : Int) := IntWalk.i64_in _ (by omega)
      have HO := Lib.hid ho
      have HN := Lib.hid hnx
      clear ho hx hnx
      go_wp2_with fail
      go_roundw
      case rel => exact ⟨m + 1, by omega, by rw [HN.out]; go_num, by go_num, HO.out⟩
      case measure => simp [intOf]; omega
    · obtain rfl : m = cs.length := by omega
      have t5 : ¬ (cs.length : Int) < (cs.length : Int) := by omega
      obtain ⟨k1, k2⟩ := cbox_at _ _ _ _ _ _ ho
      have hlt := World.block_lt_of_cell? wr _ k1
      obtain ⟨most, hmost⟩ : ∃ a, a = wsum ws cs.length := ⟨_, rfl⟩
      have HO := Lib.hid ho
      have HM := Lib.hid hmost
      rw [← hmost] at hws ⊢
      have mk := run_makeMap (P := Tryz.prog) 99 wr
      clear ho hmost
      go_wp2_with fail
      all_goals
        have hp := slv_new (c1 := c1) (c2 := c2) (cap := cap) (cbox_oth HO.out) H1.out H2.out (by omega) (by omega)
        rw [← HM.out, HN1.out] at hp
        first | rw [Nat.min_eq_left (by omega)] at hp | rw [Nat.min_eq_right (by omega)] at hp
        go_ret
        exact hp

theorem mny_par (A B : Par) (V : Nat → Nat → List Nat) (h1 : A.ws = B.ws) (h2 : A.cs = B.cs) (h3 : A.cap = B.cap) (l r j : Nat) : mny { A with V := V } l r j = mny { B with V := V } l r j := by
  cases A; cases B
  simp only at h1 h2 h3
  subst h1 h2 h3
  induction j with
  | zero => rfl
  | succ j ih => simp only at ih; simp only [mny, ih]
theorem vf_par (A B : Par) (h1 : A.ws = B.ws) (h2 : A.cs = B.cs) (h3 : A.cap = B.cap) : ∀ d l r, vf A d l r = vf B d l r
  | 0, _, _ => rfl
  | d + 1, l, r => by
    have e : vf A d = vf B d := by funext a b; exact vf_par A B h1 h2 h3 d a b
    simp only [vf, e]
    rw [mny_par A B _ h1 h2 h3]
    simp only [one, h1, h2, h3]
def par0 (cap : Nat) (ws cs : List Nat) : Par := par 0 0 0 0 0 0 cap ws cs
theorem vl_par {p g1 c1 g2 c2 mb cap : Nat} {ws cs : List Nat} (l r m : Nat) : vl (par p g1 c1 g2 c2 mb cap ws cs) l r m = vl (par0 cap ws cs) l r m := by
  unfold vl
  show (vf _ (r - l) l r).getD m 0 = (vf _ (r - l) l r).getD m 0
  rw [vf_par]
  all_goals rfl

theorem fine_cap {ws cs : List Nat} {cap c2 : Nat} (hf : Fine ws cs cap) (h : c2 ≤ cap) : Fine ws cs c2 := ⟨hf.n1, hf.n2, hf.wb, hf.cb, by have := hf.cap; omega⟩
theorem good_par {p g1 c1 g2 c2 mb cap m : Nat} {ws cs : List Nat} (hf : Fine ws cs cap) (h : m ≤ cap) : Good (par p g1 c1 g2 c2 mb m ws cs) := good_full _ (fine_cap hf h)
/-- The whole chain's row. -/
theorem values_all {p g1 c1 g2 c2 mb cap m : Nat} {ws cs : List Nat} {K : List Nat} (hf : Fine ws cs cap) (h : m ≤ cap) (w' : World) (hs : Slv (par p g1 c1 g2 c2 mb m ws cs) K w') :
    Calls Tryz.prog 31 #[.pointer (some ⟨p, 0, none⟩), .agg #[.int .i64 0, .int .i64 cs.length]] w' fun e w2 =>
      ∃ g c : Nat, e = .returned (.agg #[.slice (some ⟨g, 0, none⟩) (m + 1) c]) ∧ Slv (par p g1 c1 g2 c2 mb m ws cs) K w2 ∧ Oth [mb] w' w2 ∧ w2.cell? ⟨g, m, none⟩ = some (.int .i64 (vl (par0 m ws cs) 0 cs.length m : Nat)) := by
  have hG := good_par (p := p) (g1 := g1) (c1 := c1) (g2 := g2) (c2 := c2) (mb := mb) hf h
  have hn := hf.n2.1
  have hl : ((par p g1 c1 g2 c2 mb m ws cs).V 0 cs.length).length = m + 1 := hG.vl 0 cs.length (by omega) (Nat.le_refl _)
  refine (values_any hG (rec_full _) _ 0 cs.length rfl (by omega) (Nat.le_refl _) K w' hs).mono ?_
  rintro e w2 ⟨g, c, rfl, k1, k2, k3, k4⟩
  refine ⟨g, c, by rw [hl], k1, k2, ?_⟩
  rw [← vl_par (p := p) (g1 := g1) (c1 := c1) (g2 := g2) (c2 := c2) (mb := mb)]
  exact k3.at_ (by omega)
/-- While the whole chain's row is asked. -/
structure LR (C : Par) (K : List Nat) (w w' : World) : Prop where
  s : Slv C K w'
  o : Oth [] w w'
theorem LR.S {C : Par} {K : List Nat} {w w' : World} (h : LR C K w w') : LR C K w w' ∧ w'.cell? ⟨C.p, 2, none⟩ = some (.int .i64 C.cs.length) ∧ w'.cell? ⟨C.p, 3, none⟩ = some (.int .i64 C.cap) := ⟨h, h.s.sol.at_.2.2.1, h.s.sol.at_.2.2.2.1⟩
theorem LR.step {C : Par} {K : List Nat} {w w' w2 : World} (h : LR C K w w') (hm : w.heap.size ≤ C.mb) (hs : Slv C K w2) (ho : Oth [C.mb] w' w2) : LR C K w w2 := ⟨hs, h.o.trans ho (fun k hk => .inr (by simp at hk; omega))⟩
theorem LR.call {C : Par} {K : List Nat} {w w' w2 : World} (h : LR C K w w') (ho : Oth [] w' w2) : LR C K w w2 := ⟨h.s.oth ho (by simp), h.o.trans ho (Fr.nil _ _)⟩

set_option maxRecDepth 100000 in
set_option maxHeartbeats 4000000 in
theorem least_any {g1 c1 g2 c2 : Nat} {ws cs : List Nat} {cap M : Nat} (hM : M = min cap (wsum ws cs.length)) (hf : Fine ws cs cap) (hc : cap ≤ 4096) (hc1 : ws.length ≤ c1) (hc2 : c1 ≤ maxLen) (h1 : Ints g1 ws w) (h2 : Ints g2 cs w)
    (hv : vl (par0 M ws cs) 0 cs.length M < nn) :
    Calls Tryz.prog 11 #[.agg #[.slice (some ⟨g1, 0, none⟩) ws.length c1, .slice (some ⟨g2, 0, none⟩) cs.length c2], .int .i64 cap] w fun e w' => 
      e = .returned (.tuple #[.int .i64 (vl (par0 M ws cs) 0 cs.length M : Nat), .int .i64 0]) ∧ Oth [] w w' := by
  have HCH : Hid (∀ w', Oth [] w w' → Calls Tryz.prog 29 #[.agg #[.slice (some ⟨g1, 0, none⟩) ws.length c1, .slice (some ⟨g2, 0, none⟩) cs.length c2], .int .i64 cap] w' fun e w2 => e = .returned (.int .i64 0) ∧ Oth [] w' w2) := fun w' ho => check_any hf hc (h1.oth ho (by simp)) (h2.oth ho (by simp))
  have HNS : Hid (∀ w', Oth [] w w' → Calls Tryz.prog 30 #[.agg #[.slice (some ⟨g1, 0, none⟩) ws.length c1, .slice (some ⟨g2, 0, none⟩) cs.length c2], .int .i64 cap] w' (SolPost w' g1 c1 g2 c2 cap ws cs)) := fun w' ho => newSolver_any hf hc hc1 hc2 (h1.oth ho (by simp)) (h2.oth ho (by simp))
  have HF := Lib.hid hf
  have hMc : M ≤ cap := by omega
  obtain ⟨U, hU⟩ : ∃ a, a = vl (par0 M ws cs) 0 cs.length M := ⟨_, rfl⟩
  rw [← hU] at hv ⊢
  have t2 : (U : Int) < 1152921504606846976 := by unfold nn at hv; omega
  have T2 := Lib.hid t2
  clear t2
  have HU := Lib.hid hU
  have HM := Lib.hid hM
  clear hf h1 h2 hv hU hM
  go_enter Tryz.func11, Tryz.ntmps11
  go_wp2_with (first | (refine (HCH.out _ ((Oth.refl [] w).alloc _)).mono ?_; rintro e w' ⟨rfl, ho⟩; obtain ⟨k1, k2⟩ := cbox_at _ _ _ _ _ _ ho; have ho1 := cbox_oth ho; clear ho) | (refine (HNS.out _ ho1).mono ?_; rintro e w2 ⟨p, mb, rfl, ho2, hp, hmb, hs⟩))
  clear k1 k2
  rw [← HM.out] at hs
  have hmb2 : w.heap.size ≤ mb := by have := ho1.size; omega
  have HL : Hid (LR (par p g1 c1 g2 c2 mb M ws cs) [p, g1, g2, mb] w w2) := ⟨hs, ho1.trans ho2 (Fr.nil _ _)⟩
  have hlp := hs.old p (by simp)
  have hfd := field97
  have t1 : (M : Int) < (M : Int) + 1 := by omega
  have HVA : Hid (∀ w', LR (par p g1 c1 g2 c2 mb M ws cs) [p, g1, g2, mb] w w' → Calls Tryz.prog 31 #[.pointer (some ⟨p, 0, none⟩), .agg #[.int .i64 0, .int .i64 cs.length]] w' fun e w3 =>
      ∃ g c : Nat, e = .returned (.agg #[.slice (some ⟨g, 0, none⟩) (M + 1) c]) ∧ LR (par p g1 c1 g2 c2 mb M ws cs) [p, g1, g2, mb] w w3 ∧ w3.cell? ⟨g, M, none⟩ = some (.int .i64 U)) := by
    intro w' hl
    refine (values_all HF.out hMc w' hl.s).mono ?_
    rintro e w3 ⟨g, c, rfl, k1, k2, k3⟩
    exact ⟨g, c, rfl, hl.step hmb2 k1 k2, by rw [HU.out]; exact k3⟩
  clear hs ho1 ho2
  have HVB := HVA.out _ (HL.out.call (Oth.refl _ _).drew)
  have HVD : Hid (∀ w', LR (par p g1 c1 g2 c2 mb M ws cs) [p, g1, g2, mb] w w' → w'.cell? ⟨p, 2, none⟩ = some (.int .i64 cs.length) ∧ w'.cell? ⟨p, 3, none⟩ = some (.int .i64 M)) := fun w' h => h.S.2
  generalize par p g1 c1 g2 c2 mb M ws cs = C at *
  obtain ⟨q1, q2⟩ := HVD.out _ HL.out
  go_region_with (first | (go_at_call 31; refine HVB.mono ?_; rintro e w' ⟨g, c, rfl, k1, k2⟩; obtain ⟨r1, r2⟩ := HVD.out _ k1; have hlg := World.block_lt_of_cell? w' _ k2))
  all_goals
    have HK := Lib.hid k1.o
    clear k1 k2 r1 r2 q1 q2 HVB
    have t2 : ((1152921504606846976 : Int) ≤ (U : Int)) = False := by have := T2.out; apply eq_false; omega
    go_wp2_with fail
    go_ret2
    exact ⟨rfl, HK.out⟩
end
end Go.Proofs.YtnpdcjdmbkcpbaaGreat.Ins

namespace Go.Proofs.YtnpdcjdmbkcpbaaGreat.Ins
open Go.RowKit
set_option linter.unusedVariables false
set_option linter.unusedSimpArgs false

section
variable {w : World}
/-- What Plan hands back. -/
def PlanPost (w : World) (M : Nat) (ws cs : List Nat) (e : Ending) (w' : World) : Prop :=
  ∃ g c s' code, e = .returned (.tuple #[.slice (some ⟨g, 0, none⟩) code.length c, .int .i64 0]) ∧ (∃ p g1 c1 g2 c2 mb, Wr (par p g1 c1 g2 c2 mb M ws cs) 0 cs.length M 0 s' code) ∧ code.length ≤ 8 * (cs.length * cs.length) ∧ Row 63 2 g code.length c (cds code) w' ∧ Oth [] w w' ∧ w.heap.size ≤ g

theorem Wr.pos {C : Par} {l r m s s' : Nat} {code : List (Nat × Nat)} (h : Wr C l r m s s' code) : 0 < code.length := by
  cases h with
  | leaf => unfold Ins.leaf; rw [List.length_append]; simp
  | split => simp only [List.length_append, List.length_cons]; omega
theorem info4 : (Tryz.prog.info? 4).map (fun i => (i.zero, i.size, i.bytes)) = some (some (.bool false), 1, 1) := by kernel_rfl
theorem bls_row {g len : Nat} {wr : World} (h : wr.heap[g]? = some (.cells (madeCells #[.bool false] len) 4 (0, 0))) (hm : len ≤ maxLen) {f : Nat → Bool} (hf : ∀ i, i < len → f i = false) : Bls g f len len wr := by
  have : (List.range len).map (fun i => Value.bool (f i)) = List.replicate len (.bool false) := by
    rw [List.eq_replicate_iff]
    refine ⟨by simp, fun b hb => ?_⟩
    obtain ⟨i, hi, rfl⟩ := List.mem_map.1 hb
    rw [hf i (by simpa using hi)]
  unfold Bls
  rw [this]
  have hc : (madeCells #[.bool false] len).size = len := by rw [← Array.length_toList, toList_madeCells_one]; simp
  refine ⟨_, h, Nat.le_refl _, hm, by rw [hc]; omega, by simp, fun j hj => ?_⟩
  rw [← Array.getElem?_toList, toList_madeCells_one]
/-- A writer that has written nothing. -/
theorem wrt_new {C : Par} {K : List Nat} {wc : World} (h : LR C K w wc) (h1 : w.heap.size ≤ C.mb) (hn : C.cs.length ≤ 64) :
    Wrt C (wc.heap.size + 1) wc.heap.size (C.cs.length + 1) (fun k => k < w.heap.size) 0 [] ((wc.alloc (.cells (madeCells #[.bool false] (C.cs.length + 1)) 4)).alloc (.cells #[.pointer (some ⟨C.p, 0, none⟩), .slice (some ⟨wc.heap.size, 0, none⟩) (C.cs.length + 1) (C.cs.length + 1), .slice none 0 0] 106)) := by
  obtain ⟨b1, b2, b3, b4, b5, b6, b7⟩ := h.s.base
  have o1 := h.s.old _ b1
  have o2 := h.s.old _ b2
  have o3 := h.s.old _ b3
  have o4 := h.s.old _ b4
  have hs := h.o.size
  have p1 : Oth [] wc (wc.alloc (.cells (madeCells #[.bool false] (C.cs.length + 1)) 4)) := (Oth.refl _ _).alloc _
  have p2 : Oth [] (wc.alloc (.cells (madeCells #[.bool false] (C.cs.length + 1)) 4)) ((wc.alloc (.cells (madeCells #[.bool false] (C.cs.length + 1)) 4)).alloc (.cells #[.pointer (some ⟨C.p, 0, none⟩), .slice (some ⟨wc.heap.size, 0, none⟩) (C.cs.length + 1) (C.cs.length + 1), .slice none 0 0] 106)) := (Oth.refl _ _).alloc _
  have k1 := heap_alloc_new (wc.alloc (.cells (madeCells #[.bool false] (C.cs.length + 1)) 4)) (.cells #[.pointer (some ⟨C.p, 0, none⟩), .slice (some ⟨wc.heap.size, 0, none⟩) (C.cs.length + 1) (C.cs.length + 1), .slice none 0 0] 106)
  rw [World.size_alloc] at k1
  have k2 := p2.heap (heap_alloc_new wc (.cells (madeCells #[.bool false] (C.cs.length + 1)) 4)) (by simp)
  have s1 := (h.s.new p1 wc.heap.size (Nat.le_refl _) (by simp)).new p2 (wc.heap.size + 1) (by simp) (by simp)
  refine ⟨⟨.slice none 0 0, _, k1, ⟨rfl, .inl ⟨rfl, rfl⟩⟩, s1, (fun g hg => by cases hg), .head _, .tail _ (.head _)⟩, bls_row k2 (by unfold maxLen; omega) (fun i hi => by simp; omega), ⟨by omega, by omega, by omega, by omega, by omega⟩, ⟨by omega, by omega, by omega, by omega⟩, ⟨by omega, by omega, by omega⟩, fun k hk => by simp; omega⟩

set_option maxRecDepth 100000 in
set_option maxHeartbeats 4000000 in
theorem plan_any {g1 c1 g2 c2' : Nat} {ws cs : List Nat} {cap M : Nat} (hM : M = min cap (wsum ws cs.length)) (hf : Fine ws cs cap) (hc : cap ≤ 4096) (hc1 : ws.length ≤ c1) (hc2 : c1 ≤ maxLen) (h1 : Ints g1 ws w) (h2 : Ints g2 cs w)
    (hv : vl (par0 M ws cs) 0 cs.length M < nn) :
    Calls Tryz.prog 12 #[.agg #[.slice (some ⟨g1, 0, none⟩) ws.length c1, .slice (some ⟨g2, 0, none⟩) cs.length c2'], .int .i64 cap] w (PlanPost w M ws cs) := by
  have HCH : Hid (∀ w', Oth [] w w' → Calls Tryz.prog 29 #[.agg #[.slice (some ⟨g1, 0, none⟩) ws.length c1, .slice (some ⟨g2, 0, none⟩) cs.length c2'], .int .i64 cap] w' fun e w2 => e = .returned (.int .i64 0) ∧ Oth [] w' w2) := fun w' ho => check_any hf hc (h1.oth ho (by simp)) (h2.oth ho (by simp))
  have HNS : Hid (∀ w', Oth [] w w' → Calls Tryz.prog 30 #[.agg #[.slice (some ⟨g1, 0, none⟩) ws.length c1, .slice (some ⟨g2, 0, none⟩) cs.length c2'], .int .i64 cap] w' (SolPost w' g1 c1 g2 c2' cap ws cs)) := fun w' ho => newSolver_any hf hc hc1 hc2 (h1.oth ho (by simp)) (h2.oth ho (by simp))
  have HF := Lib.hid hf
  have hMc : M ≤ cap := by omega
  obtain ⟨U, hU⟩ : ∃ a, a = vl (par0 M ws cs) 0 cs.length M := ⟨_, rfl⟩
  rw [← hU] at hv
  have t2 : (U : Int) < 1152921504606846976 := by unfold nn at hv; omega
  have T2 := Lib.hid t2
  clear t2
  have HU := Lib.hid hU
  have HM := Lib.hid hM
  clear hf h1 h2 hv hU hM
  go_enter Tryz.func12, Tryz.ntmps12
  go_wp2_with (first | (refine (HCH.out _ ((Oth.refl [] w).alloc _)).mono ?_; rintro e w' ⟨rfl, ho⟩; obtain ⟨k1, k2⟩ := cbox_at _ _ _ _ _ _ ho; have ho1 := cbox_oth ho; clear ho) | (refine (HNS.out _ ho1).mono ?_; rintro e w2 ⟨p, mb, rfl, ho2, hp, hmb, hs⟩; clear k1 k2; rw [← HM.out] at hs; have q1 : w2.cell? ⟨p, 2, none⟩ = some (.int .i64 cs.length) := hs.sol.at_.2.2.1; have q2 : w2.cell? ⟨p, 3, none⟩ = some (.int .i64 M) := hs.sol.at_.2.2.2.1; have hlp := hs.old p (by simp); have HS := Lib.hid hs; clear hs; have HO2 := Lib.hid ho2; have HO1 := Lib.hid ho1; clear ho1 ho2))
  have hmb2 : w.heap.size ≤ mb := by have := HO1.out.size; omega
  have hml := HS.out.old mb (by simp)
  have HL : Hid (LR (par p g1 c1 g2 c2' mb M ws cs) [p, g1, g2, mb] w (w2.alloc (.cells #[.int .i64 0, .int .i64 cs.length] 103))) := (LR.mk HS.out (HO1.out.trans HO2.out (Fr.nil _ _))).call ((Oth.refl _ _).alloc _)
  have hfd := field97
  have t1 : (M : Int) < (M : Int) + 1 := by omega
  have hb := box1_keep (w := w2) (a := .int .i64 0) (b := .int .i64 cs.length) (t1 := 103) (S := []) (by simp) (Oth.refl _ _)
  have HB := Lib.hid hb
  have HVA : Hid (∀ w', LR (par p g1 c1 g2 c2' mb M ws cs) [p, g1, g2, mb] w w' → Calls Tryz.prog 31 #[.pointer (some ⟨p, 0, none⟩), .agg #[.int .i64 0, .int .i64 cs.length]] w' fun e w3 =>
      ∃ g c : Nat, e = .returned (.agg #[.slice (some ⟨g, 0, none⟩) (M + 1) c]) ∧ LR (par p g1 c1 g2 c2' mb M ws cs) [p, g1, g2, mb] w w3 ∧ w3.cell? ⟨g, M, none⟩ = some (.int .i64 U) ∧ Oth [mb] w' w3) := by
    intro w' hl
    refine (values_all HF.out hMc w' hl.s).mono ?_
    rintro e w3 ⟨g, c, rfl, k1, k2, k3⟩
    exact ⟨g, c, rfl, hl.step hmb2 k1 k2, by rw [HU.out]; exact k3, k2⟩
  have HVD : Hid (∀ w', LR (par p g1 c1 g2 c2' mb M ws cs) [p, g1, g2, mb] w w' → w'.cell? ⟨p, 2, none⟩ = some (.int .i64 cs.length) ∧ w'.cell? ⟨p, 3, none⟩ = some (.int .i64 M)) := fun w' h => h.S.2
  have HVB := HVA.out _ (HL.out.call (Oth.refl _ _).drew)
  have hCx : ∃ C, Hid (C = par p g1 c1 g2 c2' mb M ws cs) := ⟨_, Lib.hid rfl⟩
  obtain ⟨C, HCE⟩ := hCx
  rw [← HCE.out] at HVB HVD HL HVA
  have HBX : Hid (∀ w' w3, w' = (w2.alloc (.cells #[.int .i64 0, .int .i64 cs.length] 103)).drew → Oth [mb] w' w3 → w3.cell? ⟨w2.heap.size, 0, none⟩ = some (.int .i64 0) ∧ w3.cell? ⟨w2.heap.size, 1, none⟩ = some (.int .i64 cs.length)) := by
    rintro w' w3 rfl ho
    exact ⟨ho.cell HB.out.1 (by simp; omega), ho.cell HB.out.2 (by simp; omega)⟩
  have t2 : ((1152921504606846976 : Int) ≤ (U : Int)) = False := by have := T2.out; apply eq_false; omega
  clear hb
  go_cut [34] from 26 (fun x w' => x = .bool false ∧ LR C [p, g1, g2, mb] w w' ∧ w'.cell? ⟨w2.heap.size, 0, none⟩ = some (.int .i64 0) ∧ w'.cell? ⟨w2.heap.size, 1, none⟩ = some (.int .i64 cs.length) ∧ w2.heap.size < w'.heap.size)
  case first =>
    go_region_with (first | (go_at_call 31; refine HVB.mono ?_; rintro e w' ⟨g, c, rfl, k1, k2, k3⟩; obtain ⟨r1, r2⟩ := HVD.out _ k1; have hlg := World.block_lt_of_cell? w' _ k2))
    all_goals
      go_wp2_with fail
      go_meet
      case rel => exact ⟨rfl, k1, (HBX.out _ _ rfl k3).1, (HBX.out _ _ rfl k3).2, by have := k3.size; simp at this; omega⟩
  case rest =>
    obtain ⟨rfl, hl, b0, b1, hsz⟩ := hcut
    have HLC := Lib.hid hl
    obtain ⟨r1, r2⟩ := HVD.out _ hl
    have hlpc := World.block_lt_of_cell? _ _ r1
    have hn := HF.out.n2
    have e1 : IntKind.i64.wrap ((cs.length : Int) + 1) = (cs.length : Int) + 1 := IntWalk.i64_in _ (by omega)
    have hmk : (Instr.makeSlice 104 (.int .i64 ((cs.length : Int) + 1)) (.int .i64 ((cs.length : Int) + 1))).run Tryz.prog wc = .ok (.slice (some ⟨wc.heap.size, 0, none⟩) (cs.length + 1) (cs.length + 1)) (wc.alloc (.cells (madeCells #[.bool false] (cs.length + 1)) 4)) := run_make_row' (P := Tryz.prog) 104 4 (.bool false) 1 Tryz.underlying104 info4 rfl .i64 .i64 (cs.length + 1) (by omega) (by omega) wc
    have HW : Hid (Wrt C (wc.heap.size + 1) wc.heap.size (cs.length + 1) (fun k => k < w.heap.size) 0 [] ((wc.alloc (.cells (madeCells #[.bool false] (cs.length + 1)) 4)).alloc (.cells #[.pointer (some ⟨p, 0, none⟩), .slice (some ⟨wc.heap.size, 0, none⟩) (cs.length + 1) (cs.length + 1), .slice none 0 0] 106))) := by
      have hl2 := hl
      rw [HCE.out] at hl2
      have := wrt_new hl2 hmb2 hn.2
      rw [HCE.out]; exact this
    have HPART : Hid (∀ w', Wrt C (wc.heap.size + 1) wc.heap.size (cs.length + 1) (fun k => k < w.heap.size) 0 [] w' → Calls Tryz.prog 32 #[.pointer (some ⟨wc.heap.size + 1, 0, none⟩), .agg #[.int .i64 0, .int .i64 cs.length], .int .i64 M] w' (PartPost C (wc.heap.size + 1) wc.heap.size (cs.length + 1) (fun k => k < w.heap.size) 0 cs.length M 0 [] w')) := by
      intro w' hw
      have hv2 := T2.out
      rw [HCE.out] at hw ⊢
      exact part_any (good_par HF.out hMc) (rec_full _) (cs.length - 0) 0 cs.length M _ 0 [] w' rfl (by omega) (Nat.le_refl _) (by show M < M + 1 - 0; omega) (by rw [vl_par, ← HU.out]; unfold nn; omega) (Nat.le_refl _) (fun h => absurd h (Nat.lt_irrefl _)) hw (by have := Nat.mul_le_mul hn.2 hn.2; simp; omega)
    clear hl q1 q2 hn
    have hb0 := (((Oth.refl [] wc).alloc (.cells (madeCells #[.bool false] (cs.length + 1)) 4)).alloc (.cells #[.pointer (some ⟨p, 0, none⟩), .slice (some ⟨wc.heap.size, 0, none⟩) (cs.length + 1) (cs.length + 1), .slice none 0 0] 106)).cell b0 (by simp)
    go_wp2_with fail
    have HPB := HPART.out _ (HW.out.call (Oth.refl _ _).drew)
    have HKP : Hid (∀ w', Kp (fun k => k < w.heap.size) ((wc.alloc (.cells (madeCells #[.bool false] (cs.length + 1)) 4)).alloc (.cells #[.pointer (some ⟨p, 0, none⟩), .slice (some ⟨wc.heap.size, 0, none⟩) (cs.length + 1) (cs.length + 1), .slice none 0 0] 106)).drew w' → Oth [] w w') := by
      intro w' k
      have h0 := HLC.out.o.trans ((((Oth.refl [] wc).alloc (.cells (madeCells #[.bool false] (cs.length + 1)) 4)).alloc (.cells #[.pointer (some ⟨p, 0, none⟩), .slice (some ⟨wc.heap.size, 0, none⟩) (cs.length + 1) (cs.length + 1), .slice none 0 0] 106)).drew) (Fr.nil _ _)
      exact ⟨k.os.trans h0.os, k.tape.trans h0.tape, k.output.trans h0.output, Nat.le_trans h0.size k.size, fun i hi hn => (k.block i hi).trans (h0.block i hi hn)⟩
    go_region_with (first | (go_at_call 32; refine HPB.mono ?_; rintro e w' ⟨s', c2, rfl, k1, k2, k3, k4⟩))
    all_goals
      have HO := Lib.hid (HKP.out _ k4)
      rw [List.nil_append] at k3
      obtain ⟨v, K, y1, y2, y3, y4, y5, y6⟩ := k3.v
      have hpos := k1.pos
      obtain ⟨g, c, rfl, _, hrow⟩ := row_of_owns y2 hpos
      have hgn : w.heap.size ≤ g := Nat.not_lt.1 (y4 g rfl).2.2.2.2.2.2.2
      have z1 : w'.cell? ⟨wc.heap.size + 1, 2, none⟩ = some (.slice (some ⟨g, 0, none⟩) c2.length c) := by simp [World.cell?, y1]
      have hlz := World.block_lt_of_cell? _ _ z1
      have HFIN : Hid (PlanPost w M ws cs (.returned (.tuple #[.slice (some ⟨g, 0, none⟩) c2.length c, .int .i64 0])) w') := by
        refine ⟨g, c, s', c2, rfl, ⟨p, g1, c1, g2, c2', mb, ?_⟩, ?_, hrow, HO.out, hgn⟩
        · rw [← HCE.out]; exact k1
        · simpa using k2
      clear k1 k2 k3 k4 y1 y2 y3 y4 y5 y6 hrow HPB r1 r2 hb0 b0 b1
      go_wp2_with fail
      go_ret2
      exact HFIN.out
end
end Go.Proofs.YtnpdcjdmbkcpbaaGreat.Ins
