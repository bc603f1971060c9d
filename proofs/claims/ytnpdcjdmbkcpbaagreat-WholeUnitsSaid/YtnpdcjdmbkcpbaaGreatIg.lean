/- The walks of package code: Right, Check. The walk of (Chain).Walk. No condition. -/
import Derived.Test.YtnpdcjdmbkcpbaaGreatId
import Derived.Deep.Cut
import Derived.OwnWalk
namespace Go.Proofs.YtnpdcjdmbkcpbaaGreat.Ins
open Go.RowKit
set_option linter.unusedVariables false
set_option linter.unusedSimpArgs false

section
variable {w : World}
set_option maxHeartbeats 4000000 in
theorem iright_any {n k id : Nat} {x y : Int} (hx : x = k) (hy : y = id) (hr : wright n k id) (hn : n ≤ 512) :
    Calls Tryz.prog 43 #[.agg #[.int .i64 x, .int .i64 y]] w fun e w' => e = .returned (.bool true) ∧ Oth [] w w' := by
  rcases hr with ⟨rfl | rfl, rfl⟩ | ⟨rfl | rfl | rfl | rfl, i1, i2⟩
  case' inl.inl | inl.inr =>
    simp at hx hy
    subst hx hy
  case' inr.inl | inr.inr.inl | inr.inr.inr.inl | inr.inr.inr.inr =>
    simp at hx
    subst hx
    have t1 : 1 ≤ y := by omega
    have t2 : y ≤ 512 := by omega
    clear hy i1 i2
  all_goals
    go_enter Tryz.func43, Tryz.ntmps43
    go_wp2_with fail
    go_ret
    exact ⟨rfl, (Oth.refl _ _).alloc _⟩

theorem cds_at : ∀ (code : List (Nat × Nat)) (m : Nat), m < code.length → ∃ k id, code[m]? = some (k, id) ∧ (cds code)[m * 2]? = some (.int .i64 (k : Int)) ∧ (cds code)[m * 2 + 1]? = some (.int .i64 (id : Int))
  | [], m, h => by simp at h
  | (k, id) :: l, 0, h => ⟨k, id, rfl, rfl, rfl⟩
  | (k, id) :: l, m + 1, h => by
    obtain ⟨k', id', h1, h2, h3⟩ := cds_at l m (by simpa using h)
    refine ⟨k', id', by simpa using h1, ?_, ?_⟩
    · rw [show (m + 1) * 2 = m * 2 + 2 by omega]; exact h2
    · rw [show (m + 1) * 2 + 1 = m * 2 + 1 + 2 by omega]; exact h3

set_option maxHeartbeats 4000000 in
theorem ccheck_any {g c n : Nat} {code : List (Nat × Nat)} (h : Row 63 2 g code.length c (cds code) w) (hl : code.length ≤ 65536) (hn : n ≤ 512) (hr : ∀ k id, (k, id) ∈ code → wright n k id) :
    Calls Tryz.prog 34 #[.slice (some ⟨g, 0, none⟩) code.length c] w fun e w' => e = .returned (.int .i64 0) ∧ Oth [] w w' := by
  have t1 : ¬ (code.length : Int) > 65536 := by omega
  have H := Lib.hid h
  have HR := Lib.hid hr
  clear h hr
  obtain ⟨len, hlen⟩ : ∃ len, len = code.length := ⟨_, rfl⟩
  have HL := Lib.hid hlen
  rw [← hlen] at t1 hl ⊢
  clear hlen
  go_enter Tryz.func34, Tryz.ntmps34
  go_wp2_with fail
  go_loopw [10] (fun x wr => ∃ m : Nat, m ≤ len ∧ x = .int .i64 m ∧ Oth [] w wr) (fun x _ => len - (intOf x).toNat)
  case atStart => exact ⟨0, by omega, rfl, Oth.refl _ _⟩
  case round =>
    obtain ⟨m, hm, rfl, ho⟩ := hrel
    by_cases hlt : m < len
    · have t5 : (m : Int) < (len : Int) := by omega
      obtain ⟨k, id, h1, h2, h3⟩ := cds_at code m (by rw [← HL.out]; exact hlt)
      have a1 := ho.cell (H.out.cell h2) (by simp)
      have a2 := ho.cell (H.out.cell h3) (by simp)
      have hg := World.block_lt_of_cell? _ _ a1
      have hr := HR.out k id (List.mem_of_getElem? h1)
      have HC : Hid (∀ w', Calls Tryz.prog 43 #[.agg #[.int .i64 k, .int .i64 id]] w' fun e w2 => e = .returned (.bool true) ∧ Oth [] w' w2) := fun w' => iright_any rfl rfl hr hn
      have HO := Lib.hid ho
      clear ho h1 h2 h3 hr
      go_wp2_with ((with_reducible refine (HC.out _).mono ?_); rintro e w2 ⟨rfl, ho⟩)
      go_roundw
      case rel => exact ⟨m + 1, by omega, by go_num, (HO.out.alloc _).trans ho (Fr.nil _ _)⟩
      case measure => simp [intOf]; omega
    · obtain rfl : m = len := by omega
      have t5 : ¬ (m : Int) < (m : Int) := by omega
      have HO := Lib.hid ho
      clear ho
      go_wp2_with fail
      go_ret
      exact ⟨rfl, HO.out⟩
end
end Go.Proofs.YtnpdcjdmbkcpbaaGreat.Ins

namespace Go.Proofs.YtnpdcjdmbkcpbaaGreat.Ins
open Go.RowKit
set_option linter.unusedVariables false
set_option linter.unusedSimpArgs false

def ws0 (n : Nat) : WS := { pr := on (fun _ => false) 0 true, sv := fun _ => false, gr := fun _ => false, em := false, sd := false, last := n, words := 0, peak := 0, cost := 0 }
theorem wdo_cost (ws cs : List Nat) (n : Nat) (s : WS) (k id : Nat) : s.cost ≤ (wdo ws cs n s k id).cost := by
  unfold wdo; simp only; split
  · simp
  · split
    · simp
    · split
      · simp
      · split <;> simp
theorem wdo_last (ws cs : List Nat) (n : Nat) (s : WS) (k id : Nat) : (wdo ws cs n s k id).last ≤ s.last := by
  unfold wdo; simp only; split
  · simp
  · split
    · simp
    · split
      · simp
      · split <;> simp
theorem wdo_peak (ws cs : List Nat) (n : Nat) (s : WS) (k id : Nat) : (wdo ws cs n s k id).peak = max s.peak (s.words + wmore ws n k id) := by
  unfold wdo; simp only; split
  · simp
  · split
    · simp
    · split
      · simp
      · split <;> simp
theorem Runs.right {ws cs : List Nat} {n cap : Nat} {s s' : WS} {l : List (Nat × Nat)} (h : Runs ws cs n cap s l s') : ∀ k id, (k, id) ∈ l → wright n k id := by
  induction h with
  | nil => simp
  | cons h1 h2 h3 h4 h5 ih =>
    intro k id hm
    rcases List.mem_cons.1 hm with e | e
    · cases e; exact h1
    · exact ih k id e
theorem Runs.cost_le {ws cs : List Nat} {n cap : Nat} {s s' : WS} {l : List (Nat × Nat)} (h : Runs ws cs n cap s l s') : s.cost ≤ s'.cost := by
  induction h with
  | nil => exact Nat.le_refl _
  | cons h1 h2 h3 h4 h5 ih => exact Nat.le_trans (wdo_cost _ _ _ _ _ _) ih

section
variable {w : World}
def wsz (n : Nat) : WS := { pr := fun _ => false, sv := fun _ => false, gr := fun _ => false, em := false, sd := false, last := n, words := 0, peak := 0, cost := 0 }
def wlay (q gp gs gg g1 c1 g2 c2 cap : Nat) (ws cs : List Nat) : Lay := { q := q, gp := gp, cp := cs.length + 1, gs := gs, cq := cs.length + 1, gg := gg, cg := cs.length + 1, g1 := g1, c1 := c1, g2 := g2, c2 := c2, cap := cap, ws := ws, cs := cs }
def fls (n : Nat) : Obj := .cells (madeCells #[.bool false] n) 4
/-- The machine, new. -/
def MacNew (w : World) (g1 c1 g2 c2 cap : Nat) (ws cs : List Nat) (q : Nat) (w' : World) : Prop :=
  ∃ gp gs gg, Mac (wlay q gp gs gg g1 c1 g2 c2 cap ws cs) (wsz cs.length) w' ∧ Oth [] w w' ∧ w.heap.size ≤ q ∧ w.heap.size ≤ gp ∧ w.heap.size ≤ gs ∧ w.heap.size ≤ gg
theorem mac_made {wr : World} {g1 c1 g2 c2 cap a b c : Nat} {ws cs : List Nat} (ho : Oth [] w wr) (h1 : Ints g1 ws w) (h2 : Ints g2 cs w) (hl : ws.length = cs.length + 1) (hn : 1 ≤ cs.length ∧ cs.length ≤ 64)
    (ha : wr.heap.size < a ∧ a < wr.heap.size + 4) (hb : wr.heap.size < b ∧ b < wr.heap.size + 4) (hc : wr.heap.size < c ∧ c < wr.heap.size + 4) (hab : a ≠ b) (hac : a ≠ c) (hbc : b ≠ c) :
    MacNew w g1 c1 g2 c2 cap ws cs wr.heap.size ((((wr.alloc (.cells #[.slice (some ⟨g1, 0, none⟩) ws.length c1, .slice (some ⟨g2, 0, none⟩) cs.length c2, .int .i64 cs.length, .int .i64 cap,
      .slice (some ⟨a, 0, none⟩) (cs.length + 1) (cs.length + 1), .slice (some ⟨b, 0, none⟩) (cs.length + 1) (cs.length + 1), .slice (some ⟨c, 0, none⟩) (cs.length + 1) (cs.length + 1), .bool false, .bool false, .int .i64 cs.length, .int .i64 0, .int .i64 0, .int .i64 0] 109)).alloc
      (.cells (madeCells #[.bool false] (cs.length + 1)) 4)).alloc (.cells (madeCells #[.bool false] (cs.length + 1)) 4)).alloc (.cells (madeCells #[.bool false] (cs.length + 1)) 4)).drew := by
  have l1 := h1.lt (by omega)
  have l2 := h2.lt (by omega)
  have hs := ho.size
  generalize hM : (Obj.cells #[.slice (some ⟨g1, 0, none⟩) ws.length c1, .slice (some ⟨g2, 0, none⟩) cs.length c2, .int .i64 cs.length, .int .i64 cap, .slice (some ⟨a, 0, none⟩) (cs.length + 1) (cs.length + 1), .slice (some ⟨b, 0, none⟩) (cs.length + 1) (cs.length + 1), .slice (some ⟨c, 0, none⟩) (cs.length + 1) (cs.length + 1), .bool false, .bool false, .int .i64 cs.length, .int .i64 0, .int .i64 0, .int .i64 0] 109) = M
  generalize hA : (Obj.cells (madeCells #[.bool false] (cs.length + 1)) 4) = A
  have k0 := heap_alloc_new wr M
  have k1 := heap_alloc_new (wr.alloc M) A
  have k2 := heap_alloc_new ((wr.alloc M).alloc A) A
  have k3 := heap_alloc_new (((wr.alloc M).alloc A).alloc A) A
  simp only [World.size_alloc] at k1 k2 k3
  have p1 : Oth [] (wr.alloc M) ((((wr.alloc M).alloc A).alloc A).alloc A) := (((Oth.refl _ _).alloc _).alloc _).alloc _
  have p2 : Oth [] ((wr.alloc M).alloc A) ((((wr.alloc M).alloc A).alloc A).alloc A) := ((Oth.refl _ _).alloc _).alloc _
  have p3 : Oth [] (((wr.alloc M).alloc A).alloc A) ((((wr.alloc M).alloc A).alloc A).alloc A) := (Oth.refl _ _).alloc _
  have m0 := p1.heap k0 (by simp)
  have m1 := p2.heap k1 (by simp)
  have m2 := p3.heap k2 (by simp)
  have hrow : ∀ d, wr.heap.size < d → d < wr.heap.size + 4 → ((((wr.alloc M).alloc A).alloc A).alloc A).heap[d]? = some A := by
    intro d d1 d2
    have : d = wr.heap.size + 1 ∨ d = wr.heap.size + 1 + 1 ∨ d = wr.heap.size + 1 + 1 + 1 := by omega
    rcases this with rfl | rfl | rfl
    · exact m1
    · exact m2
    · exact k3
  have oo : Oth [] w ((((wr.alloc M).alloc A).alloc A).alloc A) := ((((ho.alloc _).alloc _).alloc _).alloc _)
  have hmx : cs.length + 1 ≤ maxLen := by unfold maxLen; omega
  refine ⟨a, b, c, Mac.drew ⟨m0.trans (by rw [← hM]; rfl), bls_row ((hrow a ha.1 ha.2).trans (by rw [← hA])) hmx (fun _ _ => rfl), bls_row ((hrow b hb.1 hb.2).trans (by rw [← hA])) hmx (fun _ _ => rfl), bls_row ((hrow c hc.1 hc.2).trans (by rw [← hA])) hmx (fun _ _ => rfl), h1.oth oo (by simp), h2.oth oo (by simp), ?_, ?_, ?_, ?_, hl, hn⟩, oo.drew, hs, by omega, by omega, by omega⟩
  all_goals (simp only [wlay]; omega)

set_option maxRecDepth 100000 in
set_option maxHeartbeats 8000000 in
theorem walk_any {g1 c1 g2 c2 g c : Nat} {ws cs : List Nat} {cap : Nat} {code : List (Nat × Nat)} {σ : WS} (hf : Fine ws cs cap) (hc : cap ≤ 4096) (h1 : Ints g1 ws w) (h2 : Ints g2 cs w)
    (hrow : Row 63 2 g code.length c (cds code) w) (hlen : code.length ≤ 65536) (hr : Runs ws cs cs.length cap (ws0 cs.length) code σ) (hcost : σ.cost ≤ 1152921504606846976) (hlast : σ.last = 0) (hem : σ.em = true) :
    Calls Tryz.prog 13 #[.agg #[.slice (some ⟨g1, 0, none⟩) ws.length c1, .slice (some ⟨g2, 0, none⟩) cs.length c2], .int .i64 cap, .slice (some ⟨g, 0, none⟩) code.length c] w fun e w' => 
      e = .returned (.tuple #[.int .i64 σ.cost, .int .i64 σ.peak, .int .i64 0]) ∧ Oth [] w w' := by
  have hn := hf.n2
  have HRI : Hid (∀ w', Oth [] w w' → Calls Tryz.prog 33 #[.agg #[.slice (some ⟨g1, 0, none⟩) ws.length c1, .slice (some ⟨g2, 0, none⟩) cs.length c2]] w' fun e w2 => e = .returned (.bool true) ∧ Oth [] w' w2) := fun w' ho => right_any hf (h1.oth ho (by simp)) (h2.oth ho (by simp))
  have HCK : Hid (∀ w', Oth [] w w' → Calls Tryz.prog 34 #[.slice (some ⟨g, 0, none⟩) code.length c] w' fun e w2 => e = .returned (.int .i64 0) ∧ Oth [] w' w2) := fun w' ho => ccheck_any (n := cs.length) (hrow.oth ho (by simp)) hlen (by omega) hr.right
  have HF := Lib.hid hf
  have H := Lib.hid (And.intro h1 (And.intro h2 hrow))
  have HR := Lib.hid hr
  clear hf h1 h2 hrow hr
  obtain ⟨len, hl⟩ : ∃ len, len = code.length := ⟨_, rfl⟩
  have HL := Lib.hid hl
  rw [← hl] at hlen HCK ⊢
  clear hl
  go_enter Tryz.func13, Tryz.ntmps13
  go_wp2_with (first | ((with_reducible refine (HRI.out _ ((Oth.refl _ _).alloc _)).mono ?_); rintro e w1 ⟨rfl, ho⟩; obtain ⟨k1, k2⟩ := cbox_at _ _ _ _ _ _ ho; have ho1 := cbox_oth ho; have HO := Lib.hid ho; clear ho) | ((with_reducible refine (HCK.out _ ho1).mono ?_); rintro e w2 ⟨rfl, ho2⟩; have HO2 := Lib.hid (HO.out.trans ho2 (Fr.nil _ _)); clear k1 k2 ho1 ho2; obtain ⟨k1, k2⟩ := cbox_at _ _ _ _ _ _ HO2.out))
  have hidn : ∀ k id, (k, id) ∈ code → ((cs.length : Int) < (id : Int)) = False := fun k id hm => by
    have := HR.out.right k id hm
    apply eq_false
    unfold wright at this; omega
  have HID := Lib.hid hidn
  clear k1 k2 hidn
  go_loopw [29] (fun x wr => ∃ m : Nat, m ≤ len ∧ x = .int .i64 m ∧ Oth [] (cbox g1 c1 ws.length g2 c2 cs.length w) wr) (fun x _ => len - (intOf x).toNat)
  case atStart => exact ⟨0, by omega, rfl, HO2.out⟩
  case round =>
    obtain ⟨m, hm, rfl, ho⟩ := hrel
    by_cases hlt : m < len
    · have t5 : (m : Int) < (len : Int) := by omega
      obtain ⟨k, id, h1, h2, h3⟩ := cds_at code m (by rw [← HL.out]; exact hlt)
      have a1 := (cbox_oth ho).cell (H.out.2.2.cell h2) (by simp)
      have a2 := (cbox_oth ho).cell (H.out.2.2.cell h3) (by simp)
      have hg := World.block_lt_of_cell? _ _ a1
      have t6 := HID.out k id (List.mem_of_getElem? h1)
      have HO := Lib.hid ho
      clear ho h1 h2 h3
      go_wp2_with fail
      go_roundw
      case rel => exact ⟨m + 1, by omega, by go_num, HO.out.alloc _⟩
      case measure => simp [intOf]; omega
    · obtain rfl : m = len := by omega
      have t5 : ¬ (m : Int) < (m : Int) := by omega
      obtain ⟨k1, k2⟩ := cbox_at _ _ _ _ _ _ ho
      have HO3 := Lib.hid ho
      have e1 : IntKind.i64.wrap ((cs.length : Int) + 1) = (cs.length : Int) + 1 := IntWalk.i64_in _ (by omega)
      have hmk : ∀ w', (Instr.makeSlice 104 (.int .i64 ((cs.length : Int) + 1)) (.int .i64 ((cs.length : Int) + 1))).run Tryz.prog w' = .ok (.slice (some ⟨w'.heap.size, 0, none⟩) (cs.length + 1) (cs.length + 1)) (w'.alloc (.cells (madeCells #[.bool false] (cs.length + 1)) 4)) := fun w' => run_make_row' (P := Tryz.prog) 104 4 (.bool false) 1 Tryz.underlying104 info4 rfl .i64 .i64 (cs.length + 1) (by omega) (by omega) w'
      clear ho
      go_wp2_with fail
      have HMN : Hid (∀ a b c', (wr.heap.size < a ∧ a < wr.heap.size + 4) → (wr.heap.size < b ∧ b < wr.heap.size + 4) → (wr.heap.size < c' ∧ c' < wr.heap.size + 4) → a ≠ b → a ≠ c' → b ≠ c' → MacNew w g1 c1 g2 c2 cap ws cs wr.heap.size _) := fun a b c' ha hb hc hab hac hbc => mac_made (cap := cap) (c1 := c1) (c2 := c2) (cbox_oth HO3.out) H.out.1 H.out.2.1 HF.out.n1 hn ha hb hc hab hac hbc
      go_cut [] from 44 (fun w' => MacNew w g1 c1 g2 c2 cap ws cs wr.heap.size w')
      case first =>
        go_region
        all_goals
          go_wp2_with fail
          go_meet
          case rel => exact HMN.out _ _ _ (by omega) (by omega) (by omega) (by omega) (by omega) (by omega)
      case rest =>
        obtain ⟨gp, gs, gg, hmac, ho, hq, hgp, hgs, hgg⟩ := hcut
        have HMAC := Lib.hid hmac
        have HO4 := Lib.hid ho
        obtain ⟨a0, a1, a2, a3, a4, a5, a6, a7, a8, a9, a10, a11, a12, hql, fz⟩ := hmac.all
        have g0 := hmac.pr.at_ (i := 0) (by omega)
        have g1' := hmac.pr.free 0
        have g2' := hmac.pr.lt
        dsimp only [wlay] at a0 a1 a2 a3 a4 a5 a6 a7 a8 a9 a10 a11 a12 hql fz g0 g1' g2'
        clear hmac ho k1 k2
        go_wp2_with fail
        generalize hqq : wr.heap.size = q at *
        clear HMN HO HO2 HO3 a0 a1 a2 a3 a4 a5 a6 a7 a8 a9 a10 a11 a12 hql fz g0 g1' g2'
        go_loopw [60] (fun x wr => ∃ (j : Nat) (σm : WS), j ≤ m ∧ x = .int .i64 j ∧ Mac (wlay q gp gs gg g1 c1 g2 c2 cap ws cs) σm wr ∧ Oth [] w wr ∧ Runs ws cs cs.length cap σm (code.drop j) σ ∧ σm.peak ≤ 4096 ∧ σm.last ≤ 64) (fun x _ => m - (intOf x).toNat)
        case atStart =>
          refine ⟨0, ws0 cs.length, by omega, rfl, ?_, ?_, HR.out, by simp [ws0], by simp [ws0]; omega⟩
          · first | exact HMAC.out.setp 0 true | exact (HMAC.out.setp 0 true).drew
          · first | exact HO4.out.setCell (.inr (by simp; omega)) _ | exact (HO4.out.setCell (.inr (by simp; omega)) _).drew
        case round =>
          obtain ⟨j, σm, hj, rfl, hmac, ho, hrun, hpk, hla⟩ := hrel
          by_cases hjm : j < m
          · have t7 : (j : Int) < (m : Int) := by omega
            obtain ⟨k, id, h1, h2, h3⟩ := cds_at code j (by rw [← HL.out]; exact hjm)
            have a1 := ho.cell (H.out.2.2.cell h2) (by simp)
            have a2 := ho.cell (H.out.2.2.cell h3) (by simp)
            have hg := World.block_lt_of_cell? _ _ a1
            have hdr : code.drop j = (k, id) :: code.drop (j + 1) := by
              have hjl := (List.getElem?_eq_some_iff.1 h1)
              obtain ⟨hjl, he⟩ := hjl
              rw [← he]; exact List.drop_eq_getElem_cons hjl
            rw [hdr] at hrun
            cases hrun with
            | cons r1 r2 r3 r4 r5 =>
            have HDO : Hid (∀ w', Oth [] wr w' → Calls Tryz.prog 35 #[.pointer (some ⟨q, 0, none⟩), .agg #[.int .i64 k, .int .i64 id]] w' (DoPost (wlay q gp gs gg g1 c1 g2 c2 cap ws cs) σm k id w')) := fun w' ho' =>
              do_any (hmac.oth ho') r1 r2 r3 r4 hc hpk (by have := r5.cost_le; have := wdo_cost ws cs cs.length σm k id; omega) HF.out.cb hla
            have HO := Lib.hid ho
            have hpk2 := wdo_peak ws cs cs.length σm k id
            have hla2 := wdo_last ws cs cs.length σm k id
            have HR5 := Lib.hid (And.intro r5 (And.intro (show (wdo ws cs cs.length σm k id).peak ≤ 4096 by omega) (show (wdo ws cs cs.length σm k id).last ≤ 64 by omega)))
            clear hmac ho r1 r2 r3 r4 r5 h1 h2 h3 hdr hpk2 hla2
            go_wp2_with ((with_reducible refine (HDO.out _ ((Oth.refl [] wr).alloc _)).mono ?_); rintro e w2 ⟨rfl, d1, d2⟩)
            go_roundw
            case rel => exact ⟨j + 1, _, by omega, by go_num, d1, (HO.out.alloc _).trans d2 (fun k hk => .inr (by simp [wlay] at hk; omega)), HR5.out⟩
            case measure => simp [intOf]; omega
          · obtain rfl : j = m := by omega
            have t7 : ¬ (j : Int) < (j : Int) := by omega
            rw [HL.out, List.drop_length] at hrun
            cases hrun
            obtain ⟨a0, a1, a2, a3, a4, a5, a6, a7, a8, a9, a10, a11, a12, hql, fz⟩ := hmac.all
            rw [hlast] at a9
            rw [hem] at a7
            dsimp only [wlay] at a0 a1 a2 a3 a4 a5 a6 a7 a8 a9 a10 a11 a12 hql fz
            have HO := Lib.hid ho
            clear hmac ho
            go_wp2_with fail
            go_quiet (fail)
            go_wp2_with fail
            go_ret3
            exact ⟨rfl, HO.out.drewN _⟩
end
end Go.Proofs.YtnpdcjdmbkcpbaaGreat.Ins
