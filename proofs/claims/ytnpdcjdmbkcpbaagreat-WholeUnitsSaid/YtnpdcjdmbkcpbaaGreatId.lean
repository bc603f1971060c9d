/- The walks of package chain's machine: legal, more, do. The walk of package chain's machine: do. No condition. -/
import Derived.Test.YtnpdcjdmbkcpbaaGreatIa
import Derived.BigRegion
namespace Go.Proofs.YtnpdcjdmbkcpbaaGreat.Ins
open Go.RowKit
set_option linter.unusedVariables false
set_option linter.unusedSimpArgs false

/-- Where a machine lies: its block, the rows of what is present, saved and has a gradient, and their rooms. -/
structure Lay where
  (q gp cp gs cq gg cg g1 c1 g2 c2 cap : Nat)
  (ws cs : List Nat)
def mcells (L : Lay) (σ : WS) : Array Value :=
  #[.slice (some ⟨L.g1, 0, none⟩) L.ws.length L.c1, .slice (some ⟨L.g2, 0, none⟩) L.cs.length L.c2, .int .i64 L.cs.length, .int .i64 L.cap,
    .slice (some ⟨L.gp, 0, none⟩) (L.cs.length + 1) L.cp, .slice (some ⟨L.gs, 0, none⟩) (L.cs.length + 1) L.cq, .slice (some ⟨L.gg, 0, none⟩) (L.cs.length + 1) L.cg,
    .bool σ.em, .bool σ.sd, .int .i64 σ.last, .int .i64 σ.words, .int .i64 σ.peak, .int .i64 σ.cost]
/-- A machine in memory. -/
structure Mac (L : Lay) (σ : WS) (w : World) : Prop where
  b : w.heap[L.q]? = some (.cells (mcells L σ) 109 (0, 0))
  pr : Bls L.gp σ.pr (L.cs.length + 1) L.cp w
  sv : Bls L.gs σ.sv (L.cs.length + 1) L.cq w
  gr : Bls L.gg σ.gr (L.cs.length + 1) L.cg w
  ws : Ints L.g1 L.ws w
  cs : Ints L.g2 L.cs w
  nq : L.q ≠ L.gp ∧ L.q ≠ L.gs ∧ L.q ≠ L.gg ∧ L.q ≠ L.g1 ∧ L.q ≠ L.g2
  np : L.gp ≠ L.gs ∧ L.gp ≠ L.gg ∧ L.gp ≠ L.g1 ∧ L.gp ≠ L.g2
  ns : L.gs ≠ L.gg ∧ L.gs ≠ L.g1 ∧ L.gs ≠ L.g2
  ng : L.gg ≠ L.g1 ∧ L.gg ≠ L.g2
  len : L.ws.length = L.cs.length + 1
  n : 1 ≤ L.cs.length ∧ L.cs.length ≤ 64

section
variable {L : Lay} {σ : WS} {w : World}
theorem Mac.at_ (h : Mac L σ w) : w.cell? ⟨L.q, 2, none⟩ = some (.int .i64 L.cs.length) ∧ w.cell? ⟨L.q, 4, none⟩ = some (.slice (some ⟨L.gp, 0, none⟩) (L.cs.length + 1) L.cp) ∧ w.cell? ⟨L.q, 5, none⟩ = some (.slice (some ⟨L.gs, 0, none⟩) (L.cs.length + 1) L.cq) ∧
    w.cell? ⟨L.q, 6, none⟩ = some (.slice (some ⟨L.gg, 0, none⟩) (L.cs.length + 1) L.cg) ∧ w.cell? ⟨L.q, 7, none⟩ = some (.bool σ.em) ∧ w.cell? ⟨L.q, 8, none⟩ = some (.bool σ.sd) ∧ w.cell? ⟨L.q, 9, none⟩ = some (.int .i64 σ.last) ∧ L.q < w.heap.size := by
  have hb := h.b
  refine ⟨?_, ?_, ?_, ?_, ?_, ?_, ?_, lt_of_block hb⟩ <;> (rw [World.cell?, hb]; rfl)
theorem Mac.oth {w' : World} (h : Mac L σ w) (ho : Oth [] w w') : Mac L σ w' :=
  ⟨ho.heap h.b (by simp), h.pr.oth ho (by simp), h.sv.oth ho (by simp), h.gr.oth ho (by simp), h.ws.oth ho (by simp), h.cs.oth ho (by simp), h.nq, h.np, h.ns, h.ng, h.len, h.n⟩

set_option maxRecDepth 100000 in
set_option maxHeartbeats 8000000 in
theorem legal_any {k id : Nat} (h : Mac L σ w) (hr : wright L.cs.length k id) (hl : wlegal L.cs.length σ k id = true) :
    Calls Tryz.prog 84 #[.pointer (some ⟨L.q, 0, none⟩), .agg #[.int .i64 k, .int .i64 id]] w fun e w' => e = .returned (.bool true) ∧ Oth [] w w' := by
  obtain ⟨a2, a4, a5, a6, a7, a8, a9, hq⟩ := h.at_
  have hn := h.n
  have l1 := h.pr.lt
  have l2 := h.sv.lt
  have l3 := h.gr.lt
  have fin : ∀ n1 n2 n3 : Nat, Oth [] w (w.alloc (.cells #[.int .i64 k, .int .i64 id] 63)) ∧ Oth [] w ((w.alloc (.cells #[.int .i64 k, .int .i64 id] 63)).drewN n1) := fun n1 n2 n3 => ⟨(Oth.refl _ _).alloc _, ((Oth.refl _ _).alloc _).drewN _⟩
  have FIN := Lib.hid fin
  clear fin
  rcases hr with ⟨rfl | rfl, rfl⟩ | ⟨hk, i1, i2⟩
  · -- emit
    simp [wlegal] at hl
    have b1 := h.pr.at_ (i := L.cs.length) (by omega)
    rw [hl.1] at b1
    rw [hl.2] at a7
    have t1 : (L.cs.length : Int) < (L.cs.length : Int) + 1 := by omega
    clear h hl
    go_enter Tryz.func84, Tryz.ntmps84
    go_wp2_with fail
    go_quiet (fail)
    go_wp2_with fail
    go_ret
    exact ⟨rfl, ((Oth.refl _ _).alloc _).drewN _⟩
  · -- seed
    simp [wlegal] at hl
    rw [hl] at a8
    clear h hl
    go_enter Tryz.func84, Tryz.ntmps84
    go_wp2_with fail
    go_ret
    exact ⟨rfl, (Oth.refl _ _).alloc _⟩
  · obtain ⟨j, rfl⟩ : ∃ j, id = j + 1 := ⟨id - 1, by omega⟩
    have b1 := h.pr.at_ (i := j + 1) (by omega)
    have b0 := h.pr.at_ (i := j) (by omega)
    have c1 := h.sv.at_ (i := j + 1) (by omega)
    have d1 := h.gr.at_ (i := j + 1) (by omega)
    have t1 : (j : Int) + 1 < (L.cs.length : Int) + 1 := by omega
    have t2 : (j : Int) < (L.cs.length : Int) + 1 := by omega
    have t3 : (j : Int) + 1 - 1 = (j : Int) := by omega
    have e1 : IntKind.i64.wrap (j : Int) = (j : Int) := IntWalk.i64_in _ (by omega)
    clear h hn i1 i2
    rcases hk with rfl | rfl | rfl | rfl
    · simp [wlegal] at hl
      rw [hl.1] at c1
      rw [hl.2] at b0
      clear hl b1 d1
      go_enter Tryz.func84, Tryz.ntmps84
      go_wp2_with fail
      go_ret
      exact ⟨rfl, (Oth.refl _ _).alloc _⟩
    · simp [wlegal] at hl
      rw [hl.1.1] at c1
      rw [hl.1.2] at b1
      rw [hl.2] at b0
      clear hl d1
      go_enter Tryz.func84, Tryz.ntmps84
      go_wp2_with fail
      go_ret
      exact ⟨rfl, (Oth.refl _ _).alloc _⟩
    · simp [wlegal] at hl
      rw [hl] at b1
      clear hl b0 c1 d1
      go_enter Tryz.func84, Tryz.ntmps84
      go_wp2_with fail
      go_ret
      exact ⟨rfl, (Oth.refl _ _).alloc _⟩
    · simp [wlegal] at hl
      rw [← hl.1.1] at a9
      rw [hl.1.2] at d1
      rw [hl.2] at b0
      clear hl b1 c1
      go_enter Tryz.func84, Tryz.ntmps84
      go_wp2_with fail
      go_ret
      exact ⟨rfl, (Oth.refl _ _).alloc _⟩

set_option maxRecDepth 100000 in
set_option maxHeartbeats 8000000 in
theorem more_any {k id : Nat} (h : Mac L σ w) (hr : wright L.cs.length k id) :
    Calls Tryz.prog 85 #[.pointer (some ⟨L.q, 0, none⟩), .agg #[.int .i64 k, .int .i64 id]] w fun e w' => e = .returned (.int .i64 (wmore L.ws L.cs.length k id : Nat)) ∧ Oth [] w w' := by
  obtain ⟨a2, a4, a5, a6, a7, a8, a9, hq⟩ := h.at_
  have a0 : w.cell? ⟨L.q, 0, none⟩ = some (.slice (some ⟨L.g1, 0, none⟩) L.ws.length L.c1) := by rw [World.cell?, h.b]; rfl
  have a1 : w.cell? ⟨L.q, 1, none⟩ = some (.slice (some ⟨L.g2, 0, none⟩) L.cs.length L.c2) := by rw [World.cell?, h.b]; rfl
  have hn := h.n
  have hl := h.len
  have hlt := h.ws.lt (by omega)
  have hb := h.b
  rcases hr with ⟨rfl | rfl, rfl⟩ | ⟨hk, i1, i2⟩
  · -- emit
    clear h
    go_enter Tryz.func85, Tryz.ntmps85
    go_wp2_with fail
    go_ret
    exact ⟨rfl, (Oth.refl _ _).alloc _⟩
  · -- seed
    have b1 := h.ws.at_ (i := L.cs.length) (by omega)
    rw [show wmore L.ws L.cs.length 5 0 = L.ws.getD L.cs.length 0 by simp [wmore]]
    obtain ⟨x, hx⟩ : ∃ x, x = L.ws.getD L.cs.length 0 := ⟨_, rfl⟩
    rw [← hx] at b1 ⊢
    have t1 : (L.cs.length : Int) < (L.ws.length : Int) := by omega
    clear h hx
    go_enter Tryz.func85, Tryz.ntmps85
    go_wp2_with fail
    go_quiet (fail)
    go_wp2_with fail
    go_ret
    exact ⟨rfl, ((Oth.refl _ _).alloc _).drewN _⟩
  · obtain ⟨j, rfl⟩ : ∃ j, id = j + 1 := ⟨id - 1, by omega⟩
    have b1 := h.ws.at_ (i := j + 1) (by omega)
    obtain ⟨x, hx⟩ : ∃ x, x = L.ws.getD (j + 1) 0 := ⟨_, rfl⟩
    rw [← hx] at b1
    have t1 : (j : Int) + 1 < (L.ws.length : Int) := by omega
    rcases hk with rfl | rfl | rfl | rfl
    · rw [show wmore L.ws L.cs.length 1 (j + 1) = x by simp only [wmore, hx]; simp]
      clear h hx
      go_enter Tryz.func85, Tryz.ntmps85
      go_wp2_with fail
      go_quiet (fail)
      go_wp2_with fail
      go_ret
      exact ⟨rfl, ((Oth.refl _ _).alloc _).drewN _⟩
    · rw [show wmore L.ws L.cs.length 2 (j + 1) = x by simp only [wmore, hx]; simp]
      clear h hx
      go_enter Tryz.func85, Tryz.ntmps85
      go_wp2_with fail
      go_quiet (fail)
      go_wp2_with fail
      go_ret
      exact ⟨rfl, ((Oth.refl _ _).alloc _).drewN _⟩
    · rw [show wmore L.ws L.cs.length 3 (j + 1) = 0 by simp [wmore]]
      clear h hx
      go_enter Tryz.func85, Tryz.ntmps85
      go_wp2_with fail
      go_ret
      exact ⟨rfl, (Oth.refl _ _).alloc _⟩
    · rw [show wmore L.ws L.cs.length 6 (j + 1) = kp L.ws j by simp [wmore]]
      have HK : Hid (∀ w', Oth [] w w' → Calls Tryz.prog 75 #[.agg #[.slice (some ⟨L.g1, 0, none⟩) L.ws.length L.c1, .slice (some ⟨L.g2, 0, none⟩) L.cs.length L.c2], .int .i64 j] w' fun e w2 => e = .returned (.int .i64 (kp L.ws j : Nat)) ∧ Oth [] w' w2) :=
        fun w' ho => kept_any (h.ws.oth ho (by simp)) (by omega)
      have t3 : (j : Int) + 1 - 1 = (j : Int) := by omega
      have e1 : IntKind.i64.wrap (j : Int) = (j : Int) := IntWalk.i64_in _ (by omega)
      have KEEP : Hid (∀ w', Oth [] (w.alloc (.cells #[.int .i64 6, .int .i64 ((j : Int) + 1)] 63)) w' → Oth [] w w' ∧ w'.cell? ⟨L.q, 0, none⟩ = some (.slice (some ⟨L.g1, 0, none⟩) L.ws.length L.c1) ∧ w'.cell? ⟨L.q, 1, none⟩ = some (.slice (some ⟨L.g2, 0, none⟩) L.cs.length L.c2) ∧ w'.cell? ⟨w.heap.size, 1, none⟩ = some (.int .i64 ((j : Int) + 1))) := by
        intro w' ho
        have h0 : Oth [] w w' := ((Oth.refl _ _).alloc _).trans ho (Fr.nil _ _)
        exact ⟨h0, h0.cell a0 (by simp), h0.cell a1 (by simp), (box1_keep (by simp) ho).2⟩
      clear h hx a0 a1 hb hl
      go_enter Tryz.func85, Tryz.ntmps85
      go_wp2_with fail
      go_region_held3 (fun w' => Oth [] w w' ∧ w'.cell? ⟨L.q, 0, none⟩ = some (.slice (some ⟨L.g1, 0, none⟩) L.ws.length L.c1) ∧ w'.cell? ⟨L.q, 1, none⟩ = some (.slice (some ⟨L.g2, 0, none⟩) L.cs.length L.c2) ∧ w'.cell? ⟨w.heap.size, 1, none⟩ = some (.int .i64 ((j : Int) + 1)))
        (first | exact KEEP.out _ (Oth.refl _ _).drew | exact KEEP.out _ ((Oth.refl _ _).drew.trans ho (Fr.nil _ _))) (first | (go_at_call 75; refine (HK.out _ (((Oth.refl [] w).alloc _).drew)).mono ?_; rintro e w' ⟨rfl, ho⟩))
      go_wp2_with fail
      go_ret
      rename_i hh
      exact ⟨rfl, hh.1⟩
end
end Go.Proofs.YtnpdcjdmbkcpbaaGreat.Ins

namespace Go.Proofs.YtnpdcjdmbkcpbaaGreat.Ins
open Go.RowKit
set_option linter.unusedVariables false
set_option linter.unusedSimpArgs false

section
variable {L : Lay} {σ : WS} {w : World}
/-- What do leaves. -/
def DoPost (L : Lay) (σ : WS) (k id : Nat) (w : World) (e : Ending) (w' : World) : Prop := e = .returned (.int .i64 0) ∧ Mac L (wdo L.ws L.cs L.cs.length σ k id) w' ∧ Oth [L.q, L.gp, L.gs, L.gg] w w'

theorem Mac.all (h : Mac L σ w) : w.cell? ⟨L.q, 0, none⟩ = some (.slice (some ⟨L.g1, 0, none⟩) L.ws.length L.c1) ∧ w.cell? ⟨L.q, 1, none⟩ = some (.slice (some ⟨L.g2, 0, none⟩) L.cs.length L.c2) ∧ w.cell? ⟨L.q, 2, none⟩ = some (.int .i64 L.cs.length) ∧ w.cell? ⟨L.q, 3, none⟩ = some (.int .i64 L.cap) ∧ w.cell? ⟨L.q, 4, none⟩ = some (.slice (some ⟨L.gp, 0, none⟩) (L.cs.length + 1) L.cp) ∧ w.cell? ⟨L.q, 5, none⟩ = some (.slice (some ⟨L.gs, 0, none⟩) (L.cs.length + 1) L.cq) ∧
    w.cell? ⟨L.q, 6, none⟩ = some (.slice (some ⟨L.gg, 0, none⟩) (L.cs.length + 1) L.cg) ∧ w.cell? ⟨L.q, 7, none⟩ = some (.bool σ.em) ∧ w.cell? ⟨L.q, 8, none⟩ = some (.bool σ.sd) ∧ w.cell? ⟨L.q, 9, none⟩ = some (.int .i64 σ.last) ∧ w.cell? ⟨L.q, 10, none⟩ = some (.int .i64 σ.words) ∧ w.cell? ⟨L.q, 11, none⟩ = some (.int .i64 σ.peak) ∧ w.cell? ⟨L.q, 12, none⟩ = some (.int .i64 σ.cost) ∧ L.q < w.heap.size ∧ ∀ j, w.frozen? ⟨L.q, j, none⟩ = false := by
  have hb := h.b
  refine ⟨?_, ?_, ?_, ?_, ?_, ?_, ?_, ?_, ?_, ?_, ?_, ?_, ?_, lt_of_block hb, fun j => ?_⟩
  any_goals (rw [World.cell?, hb]; rfl)
  rw [World.frozen?, hb]; rfl
/-- Behind the two questions: the machine, and the box of the instruction. -/
structure DR (L : Lay) (σ : WS) (k id : Int) (w w' : World) : Prop where
  m : Mac L σ w'
  o : Oth [] w w'
  b0 : w'.cell? ⟨w.heap.size, 0, none⟩ = some (.int .i64 k)
  b1 : w'.cell? ⟨w.heap.size, 1, none⟩ = some (.int .i64 id)
theorem dr_init {k id : Int} (h : Mac L σ w) : DR L σ k id w (w.alloc (.cells #[.int .i64 k, .int .i64 id] 63)) := by
  obtain ⟨k1, k2⟩ := box1_keep (w := w) (a := .int .i64 k) (b := .int .i64 id) (t1 := 63) (S := []) (by simp) (Oth.refl _ _)
  exact ⟨h.oth ((Oth.refl _ _).alloc _), (Oth.refl _ _).alloc _, k1, k2⟩
theorem DR.call {k id : Int} {w1 w2 : World} (h : DR L σ k id w w1) (ho : Oth [] w1 w2) : DR L σ k id w w2 := ⟨h.m.oth ho, h.o.trans ho (Fr.nil _ _), ho.cell h.b0 (by simp), ho.cell h.b1 (by simp)⟩

theorem Mac.put {i : Nat} {v : Value} {σ' : WS} (h : Mac L σ w) (hc : (mcells L σ).setIfInBounds i v = mcells L σ') (hp : σ'.pr = σ.pr) (hs : σ'.sv = σ.sv) (hg : σ'.gr = σ.gr) : Mac L σ' (w.setCell ⟨L.q, i, none⟩ v) := by
  have ho : Oth [L.q] w (w.setCell ⟨L.q, i, none⟩ v) := (Oth.refl _ _).setCell (.inl (by simp)) _
  obtain ⟨n1, n2, n3, n4, n5⟩ := h.nq
  refine ⟨?_, by rw [hp]; exact h.pr.oth ho (by simpa using n1.symm), by rw [hs]; exact h.sv.oth ho (by simpa using n2.symm), by rw [hg]; exact h.gr.oth ho (by simpa using n3.symm), h.ws.oth ho (by simpa using n4.symm), h.cs.oth ho (by simpa using n5.symm), h.nq, h.np, h.ns, h.ng, h.len, h.n⟩
  rw [← hc]
  simp [World.setCell, Array.getElem?_modify, h.b]
theorem Mac.words {x : Nat} {y : Int} (h : Mac L σ w) (hy : y = x) : Mac L { σ with words := x } (w.setCell ⟨L.q, 10, none⟩ (.int .i64 y)) := h.put (by rw [hy]; rfl) rfl rfl rfl
theorem Mac.peak {x : Nat} {y : Int} (h : Mac L σ w) (hy : y = x) : Mac L { σ with peak := x } (w.setCell ⟨L.q, 11, none⟩ (.int .i64 y)) := h.put (by rw [hy]; rfl) rfl rfl rfl
theorem Mac.cost {x : Nat} {y : Int} (h : Mac L σ w) (hy : y = x) : Mac L { σ with cost := x } (w.setCell ⟨L.q, 12, none⟩ (.int .i64 y)) := h.put (by rw [hy]; rfl) rfl rfl rfl
theorem Mac.last {x : Nat} {y : Int} (h : Mac L σ w) (hy : y = x) : Mac L { σ with last := x } (w.setCell ⟨L.q, 9, none⟩ (.int .i64 y)) := h.put (by rw [hy]; rfl) rfl rfl rfl
theorem Mac.em (h : Mac L σ w) (b : Bool) : Mac L { σ with em := b } (w.setCell ⟨L.q, 7, none⟩ (.bool b)) := h.put rfl rfl rfl rfl
theorem Mac.sd (h : Mac L σ w) (b : Bool) : Mac L { σ with sd := b } (w.setCell ⟨L.q, 8, none⟩ (.bool b)) := h.put rfl rfl rfl rfl
theorem Mac.setp (h : Mac L σ w) (i : Nat) (b : Bool) : Mac L { σ with pr := on σ.pr i b } (w.setCell ⟨L.gp, i, none⟩ (.bool b)) := by
  have ho : Oth [L.gp] w (w.setCell ⟨L.gp, i, none⟩ (.bool b)) := (Oth.refl _ _).setCell (.inl (by simp)) _
  obtain ⟨n1, n2, n3, n4, n5⟩ := h.nq
  obtain ⟨m1, m2, m3, m4⟩ := h.np
  exact ⟨ho.heap h.b (by simpa using n1), h.pr.set i b, h.sv.oth ho (by simpa using m1.symm), h.gr.oth ho (by simpa using m2.symm), h.ws.oth ho (by simpa using m3.symm), h.cs.oth ho (by simpa using m4.symm), h.nq, h.np, h.ns, h.ng, h.len, h.n⟩
theorem Mac.sets (h : Mac L σ w) (i : Nat) (b : Bool) : Mac L { σ with sv := on σ.sv i b } (w.setCell ⟨L.gs, i, none⟩ (.bool b)) := by
  have ho : Oth [L.gs] w (w.setCell ⟨L.gs, i, none⟩ (.bool b)) := (Oth.refl _ _).setCell (.inl (by simp)) _
  obtain ⟨n1, n2, n3, n4, n5⟩ := h.nq
  obtain ⟨m1, m2, m3⟩ := h.ns
  exact ⟨ho.heap h.b (by simpa using n2), h.pr.oth ho (by simpa using h.np.1), h.sv.set i b, h.gr.oth ho (by simpa using m1.symm), h.ws.oth ho (by simpa using m2.symm), h.cs.oth ho (by simpa using m3.symm), h.nq, h.np, h.ns, h.ng, h.len, h.n⟩
theorem Mac.setg (h : Mac L σ w) (i : Nat) (b : Bool) : Mac L { σ with gr := on σ.gr i b } (w.setCell ⟨L.gg, i, none⟩ (.bool b)) := by
  have ho : Oth [L.gg] w (w.setCell ⟨L.gg, i, none⟩ (.bool b)) := (Oth.refl _ _).setCell (.inl (by simp)) _
  obtain ⟨n1, n2, n3, n4, n5⟩ := h.nq
  obtain ⟨m1, m2⟩ := h.ng
  exact ⟨ho.heap h.b (by simpa using n3), h.pr.oth ho (by simpa using h.np.2.1), h.sv.oth ho (by simpa using h.ns.1), h.gr.set i b, h.ws.oth ho (by simpa using m1.symm), h.cs.oth ho (by simpa using m2.symm), h.nq, h.np, h.ns, h.ng, h.len, h.n⟩
theorem Mac.drew (h : Mac L σ w) : Mac L σ w.drew := h.oth (Oth.refl _ _).drew
theorem Mac.drewN (h : Mac L σ w) (n : Nat) : Mac L σ (w.drewN n) := h.oth ((Oth.refl _ _).drewN n)

/-- Behind the account of words: the machine, and the box of the instruction. -/
structure D3 (L : Lay) (σ : WS) (k id : Int) (w w' : World) : Prop where
  m : Mac L σ w'
  o : Oth [L.q, L.gp, L.gs, L.gg] w w'
  b0 : w'.cell? ⟨w.heap.size, 0, none⟩ = some (.int .i64 k)
  b1 : w'.cell? ⟨w.heap.size, 1, none⟩ = some (.int .i64 id)
  bl : w.heap.size < w'.heap.size
def w3 (L : Lay) (X P nq : Nat) (σ : WS) (w2 : World) : World := (((w2.drewN nq).setCell ⟨L.q, 10, none⟩ (.int .i64 ((σ.words : Int) + X))).setCell ⟨L.q, 11, none⟩ (.int .i64 P)).drew
theorem d3_of {x y : Int} {w2 : World} {X P nq : Nat} (h : DR L σ x y w w2) (hq : L.q < w.heap.size) : D3 L { σ with words := σ.words + X, peak := P } x y w (w3 L X P nq σ w2) := by
  have o2 : Oth [L.q] w2 (w3 L X P nq σ w2) := ((((Oth.refl _ _).drewN nq).setCell (.inl (by simp)) _).setCell (.inl (by simp)) _).drew
  have hne : w.heap.size ≠ L.q := by omega
  exact ⟨(((h.m.drewN nq).words (x := σ.words + X) (by omega)).peak (x := P) rfl).drew, ((h.o.mono (S' := [L.q]) (by simp)).trans o2 (Fr.refl _ _)).mono (by simp), o2.cell h.b0 (by simpa using hne), o2.cell h.b1 (by simpa using hne), Nat.lt_of_lt_of_le (World.block_lt_of_cell? _ _ h.b0) o2.size⟩

theorem D3.setp {x y : Int} {w2 : World} (h : D3 L σ x y w w2) (hq : L.gp < w.heap.size) (i : Nat) (b : Bool) : D3 L { σ with pr := on σ.pr i b } x y w (w2.setCell ⟨L.gp, i, none⟩ (.bool b)) := by
  have o2 : Oth [L.gp] w2 (w2.setCell ⟨L.gp, i, none⟩ (.bool b)) := (Oth.refl _ _).setCell (.inl (by simp)) _
  have hne : w.heap.size ≠ L.gp := by omega
  exact ⟨h.m.setp i b, h.o.setCell (.inl (by simp)) _, o2.cell h.b0 (by simpa using hne), o2.cell h.b1 (by simpa using hne), Nat.lt_of_lt_of_le h.bl o2.size⟩

theorem D3.drew {x y : Int} {w2 : World} (h : D3 L σ x y w w2) : D3 L σ x y w w2.drew := ⟨h.m.drew, h.o.drew, h.b0, h.b1, h.bl⟩

set_option maxRecDepth 100000 in
set_option maxHeartbeats 8000000 in
theorem do_any {k id : Nat} (h : Mac L σ w) (hr : wright L.cs.length k id) (hl : wlegal L.cs.length σ k id = true) (hc : σ.words + wmore L.ws L.cs.length k id ≤ L.cap) (hw : k = 3 ∨ k = 6 → L.ws.getD id 0 ≤ σ.words + wmore L.ws L.cs.length k id)
    (hcap : L.cap ≤ 4096) (hp : σ.peak ≤ 4096) (hco : σ.cost ≤ 2305843009213693952) (hcs : ∀ i, i < L.cs.length → L.cs.getD i 0 ≤ 1099511627776) (hla : σ.last ≤ 64) :
    Calls Tryz.prog 35 #[.pointer (some ⟨L.q, 0, none⟩), .agg #[.int .i64 k, .int .i64 id]] w (DoPost L σ k id w) := by
  have HL : Hid (∀ w', Oth [] w w' → Calls Tryz.prog 84 #[.pointer (some ⟨L.q, 0, none⟩), .agg #[.int .i64 k, .int .i64 id]] w' fun e w2 => e = .returned (.bool true) ∧ Oth [] w' w2) :=
    fun w' ho => legal_any (h.oth ho) hr hl
  have HM0 : Hid (∀ w', Oth [] w w' → Calls Tryz.prog 85 #[.pointer (some ⟨L.q, 0, none⟩), .agg #[.int .i64 k, .int .i64 id]] w' fun e w2 => e = .returned (.int .i64 (wmore L.ws L.cs.length k id : Nat)) ∧ Oth [] w' w2) :=
    fun w' ho => more_any (h.oth ho) hr
  have HB : Hid (DR L σ k id w (w.alloc (.cells #[.int .i64 k, .int .i64 id] 63))) := dr_init h
  obtain ⟨X, hX⟩ : ∃ X, X = wmore L.ws L.cs.length k id := ⟨_, rfl⟩
  rw [← hX] at hc hw HM0
  obtain ⟨P, hP⟩ : ∃ P, P = max σ.peak (σ.words + X) := ⟨_, rfl⟩
  have hmax : (if (σ.peak : Int) < (σ.words : Int) + X then (σ.words : Int) + X else (σ.peak : Int)) = (P : Int) := by split <;> omega
  have t1 : ((L.cap : Int) < (σ.words : Int) + X) = False := by apply eq_false; omega
  have e1 : IntKind.i64.wrap ((σ.words : Int) + X) = (σ.words : Int) + X := IntWalk.i64_in _ (by omega)
  obtain ⟨n1, n2, n3, n4, n5⟩ := h.nq
  obtain ⟨m1, m2, m3, m4⟩ := h.np
  obtain ⟨p1, p2, p3⟩ := h.ns
  obtain ⟨q1, q2⟩ := h.ng
  have hn := h.n
  have hlen := h.len
  have hq0 := lt_of_block h.b
  have hp0 := h.pr.lt
  have HW := Lib.hid hw
  clear hw
  clear h
  have HP := Lib.hid hP
  have HHX := Lib.hid hX
  clear hP hX
  obtain ⟨x, hx⟩ : ∃ x : Int, (k : Int) = x := ⟨_, rfl⟩
  obtain ⟨y, hy⟩ : ∃ y : Int, (id : Int) = y := ⟨_, rfl⟩
  rw [hx, hy] at HL HM0 HB ⊢
  rcases hr with ⟨rfl | rfl, rfl⟩ | ⟨rfl | rfl | rfl | rfl, i1, i2⟩
  · obtain rfl : x = 4 := by omega
    obtain rfl : y = 0 := by omega
    clear hx hy
    go_enter Tryz.func35, Tryz.ntmps35
    go_wp2_with ((with_reducible refine (HL.out _ HB.out.o).mono ?_); rintro e w1 ⟨rfl, ho⟩; have HB1 := Lib.hid (HB.out.call ho); have b0 := HB1.out.b0; have b1 := HB1.out.b1; clear ho)
    (with_reducible refine (HM0.out _ HB1.out.o).mono ?_)
    rintro e w2 ⟨rfl, ho⟩
    have HB2 := Lib.hid (HB1.out.call ho)
    clear b0 b1 ho
    have b0 := HB2.out.b0
    have b1 := HB2.out.b1
    obtain ⟨a0, a1, a2, a3, a4, a5, a6, a7, a8, a9, a10, a11, a12, hq, fz⟩ := HB2.out.m.all
    go_wp2_with fail
    go_quiet (fail)
    go_wp2_with fail
    go_region
    go_wp2_with fail
    go_ret
    have e9 : wdo L.ws L.cs L.cs.length σ 4 0 = { σ with words := σ.words + X, peak := P, em := true } := by rw [HP.out, HHX.out]; rfl
    refine ⟨rfl, ?_, ?_⟩
    · rw [e9]
      exact ((((HB2.out.m.drewN nq).words (x := σ.words + X) (by omega)).peak (x := P) rfl).em true).drew
    · exact (((((HB2.out.o.mono (by simp)).drewN nq).setCell (.inl (by simp)) _).setCell (.inl (by simp)) _).setCell (.inl (by simp)) _).drew
  · obtain rfl : x = 5 := by omega
    obtain rfl : y = 0 := by omega
    clear hx hy
    go_enter Tryz.func35, Tryz.ntmps35
    go_wp2_with ((with_reducible refine (HL.out _ HB.out.o).mono ?_); rintro e w1 ⟨rfl, ho⟩; have HB1 := Lib.hid (HB.out.call ho); have b0 := HB1.out.b0; have b1 := HB1.out.b1; clear ho)
    (with_reducible refine (HM0.out _ HB1.out.o).mono ?_)
    rintro e w2 ⟨rfl, ho⟩
    have HB2 := Lib.hid (HB1.out.call ho)
    clear b0 b1 ho
    have b0 := HB2.out.b0
    have b1 := HB2.out.b1
    obtain ⟨a0, a1, a2, a3, a4, a5, a6, a7, a8, a9, a10, a11, a12, hq, fz⟩ := HB2.out.m.all
    go_wp2_with fail
    go_quiet (fail)
    go_wp2_with fail
    go_region
    go_wp2_with fail
    have HD : Hid (D3 L { σ with words := σ.words + X, peak := P } 5 (0) w (w3 L X P nq σ w2)) := d3_of HB2.out hq0
    clear a0 a1 a2 a3 a4 a5 a6 a7 a8 a9 a10 a11 a12 hq fz b0 b1
    change Code.wp _ _ _ _ (w3 L X P nq σ w2)
    generalize w3 L X P nq σ w2 = W at HD ⊢
    obtain ⟨a0, a1, a2, a3, a4, a5, a6, a7, a8, a9, a10, a11, a12, hq, fz⟩ := HD.out.m.all
    dsimp only at a7 a8 a9 a10 a11 a12
    have b0 := HD.out.b0
    have b1 := HD.out.b1
    have hbl := HD.out.bl
    have g0 := HD.out.m.gr.at_ (i := L.cs.length) (by omega)
    have g1 := HD.out.m.gr.free L.cs.length
    have g2 := HD.out.m.gr.lt
    have t5 : (L.cs.length : Int) < (L.cs.length : Int) + 1 := by omega
    go_region
    go_wp2_with fail
    go_ret
    have e9 : wdo L.ws L.cs L.cs.length σ 5 0 = { σ with words := σ.words + X, peak := P, sd := true, gr := on σ.gr L.cs.length true } := by rw [HP.out, HHX.out]; rfl
    refine ⟨rfl, ?_, ?_⟩
    · rw [e9]
      exact ((HD.out.m.sd true).setg L.cs.length true).drew
    · exact ((HD.out.o.setCell (.inl (by simp)) _).setCell (.inl (by simp)) _).drew
  · obtain rfl : x = 1 := by omega
    obtain ⟨j, rfl⟩ : ∃ j, id = j + 1 := ⟨id - 1, by omega⟩
    obtain rfl : y = (j : Int) + 1 := by omega
    clear hx hy
    have t5 : (j : Int) + 1 < (L.cs.length : Int) + 1 := by omega
    have t6 : (j : Int) < (L.cs.length : Int) := by omega
    have t7 : (j : Int) + 1 - 1 = (j : Int) := by omega
    have e2 : IntKind.i64.wrap (j : Int) = (j : Int) := IntWalk.i64_in _ (by omega)
    go_enter Tryz.func35, Tryz.ntmps35
    go_wp2_with ((with_reducible refine (HL.out _ HB.out.o).mono ?_); rintro e w1 ⟨rfl, ho⟩; have HB1 := Lib.hid (HB.out.call ho); have b0 := HB1.out.b0; have b1 := HB1.out.b1; clear ho)
    (with_reducible refine (HM0.out _ HB1.out.o).mono ?_)
    rintro e w2 ⟨rfl, ho⟩
    have HB2 := Lib.hid (HB1.out.call ho)
    clear b0 b1 ho
    have b0 := HB2.out.b0
    have b1 := HB2.out.b1
    obtain ⟨a0, a1, a2, a3, a4, a5, a6, a7, a8, a9, a10, a11, a12, hq, fz⟩ := HB2.out.m.all
    go_wp2_with fail
    go_quiet (fail)
    go_wp2_with fail
    go_region
    go_wp2_with fail
    have HD : Hid (D3 L { σ with words := σ.words + X, peak := P } 1 ((j : Int) + 1) w (w3 L X P nq σ w2)) := d3_of HB2.out hq0
    clear a0 a1 a2 a3 a4 a5 a6 a7 a8 a9 a10 a11 a12 hq fz b0 b1
    change Code.wp _ _ _ _ (w3 L X P nq σ w2)
    generalize w3 L X P nq σ w2 = W at HD ⊢
    obtain ⟨a0, a1, a2, a3, a4, a5, a6, a7, a8, a9, a10, a11, a12, hq, fz⟩ := HD.out.m.all
    dsimp only at a7 a8 a9 a10 a11 a12
    have b0 := HD.out.b0
    have b1 := HD.out.b1
    have hbl := HD.out.bl
    have g0 := HD.out.m.pr.at_ (i := j + 1) (by omega)
    have g1 := HD.out.m.pr.free (j + 1)
    have g2 := HD.out.m.pr.lt
    have k0 := HD.out.m.sv.at_ (i := j + 1) (by omega)
    have k1 := HD.out.m.sv.free (j + 1)
    have k2 := HD.out.m.sv.lt
    have l0 := HD.out.m.cs.at_ (i := j) (by omega)
    have l1 := hcs j (by omega)
    obtain ⟨cc, hcc⟩ : ∃ cc, cc = L.cs.getD j 0 := ⟨_, rfl⟩
    rw [← hcc] at l0 l1
    have HCC := Lib.hid hcc
    have e3 : IntKind.i64.wrap ((σ.cost : Int) + cc) = (σ.cost : Int) + cc := IntWalk.i64_in _ (by omega)
    clear hcc
    go_region
    go_wp2_with fail
    go_region
    go_wp2_with fail
    go_ret
    have e9 : wdo L.ws L.cs L.cs.length σ 1 (j + 1) = { σ with words := σ.words + X, peak := P, pr := on σ.pr (j + 1) true, sv := on σ.sv (j + 1) true, cost := σ.cost + cc } := by rw [HP.out, HHX.out, HCC.out]; rfl
    refine ⟨rfl, ?_, ?_⟩
    · rw [e9]
      exact ((((HD.out.m.setp (j + 1) true).sets (j + 1) true).drew.cost (x := σ.cost + cc) (by simp))).drew
    · exact ((((HD.out.o.setCell (.inl (by simp)) _).setCell (.inl (by simp)) _).drew).setCell (.inl (by simp)) _).drew
  · obtain rfl : x = 2 := by omega
    obtain ⟨j, rfl⟩ : ∃ j, id = j + 1 := ⟨id - 1, by omega⟩
    obtain rfl : y = (j : Int) + 1 := by omega
    clear hx hy
    have t5 : (j : Int) + 1 < (L.cs.length : Int) + 1 := by omega
    have t6 : (j : Int) < (L.cs.length : Int) := by omega
    have t7 : (j : Int) + 1 - 1 = (j : Int) := by omega
    have e2 : IntKind.i64.wrap (j : Int) = (j : Int) := IntWalk.i64_in _ (by omega)
    go_enter Tryz.func35, Tryz.ntmps35
    go_wp2_with ((with_reducible refine (HL.out _ HB.out.o).mono ?_); rintro e w1 ⟨rfl, ho⟩; have HB1 := Lib.hid (HB.out.call ho); have b0 := HB1.out.b0; have b1 := HB1.out.b1; clear ho)
    (with_reducible refine (HM0.out _ HB1.out.o).mono ?_)
    rintro e w2 ⟨rfl, ho⟩
    have HB2 := Lib.hid (HB1.out.call ho)
    clear b0 b1 ho
    have b0 := HB2.out.b0
    have b1 := HB2.out.b1
    obtain ⟨a0, a1, a2, a3, a4, a5, a6, a7, a8, a9, a10, a11, a12, hq, fz⟩ := HB2.out.m.all
    go_wp2_with fail
    go_quiet (fail)
    go_wp2_with fail
    go_region
    go_wp2_with fail
    have HD : Hid (D3 L { σ with words := σ.words + X, peak := P } 2 ((j : Int) + 1) w (w3 L X P nq σ w2)) := d3_of HB2.out hq0
    clear a0 a1 a2 a3 a4 a5 a6 a7 a8 a9 a10 a11 a12 hq fz b0 b1
    change Code.wp _ _ _ _ (w3 L X P nq σ w2)
    generalize w3 L X P nq σ w2 = W at HD ⊢
    obtain ⟨a0, a1, a2, a3, a4, a5, a6, a7, a8, a9, a10, a11, a12, hq, fz⟩ := HD.out.m.all
    dsimp only at a7 a8 a9 a10 a11 a12
    have b0 := HD.out.b0
    have b1 := HD.out.b1
    have hbl := HD.out.bl
    have g0 := HD.out.m.pr.at_ (i := j + 1) (by omega)
    have g1 := HD.out.m.pr.free (j + 1)
    have g2 := HD.out.m.pr.lt
    have k0 := HD.out.m.sv.at_ (i := j + 1) (by omega)
    have k1 := HD.out.m.sv.free (j + 1)
    have k2 := HD.out.m.sv.lt
    have l0 := HD.out.m.cs.at_ (i := j) (by omega)
    have l1 := hcs j (by omega)
    obtain ⟨cc, hcc⟩ : ∃ cc, cc = L.cs.getD j 0 := ⟨_, rfl⟩
    rw [← hcc] at l0 l1
    have HCC := Lib.hid hcc
    have e3 : IntKind.i64.wrap ((σ.cost : Int) + cc) = (σ.cost : Int) + cc := IntWalk.i64_in _ (by omega)
    clear hcc
    go_region
    go_wp2_with fail
    go_region
    go_wp2_with fail
    go_ret
    have e9 : wdo L.ws L.cs L.cs.length σ 2 (j + 1) = { σ with words := σ.words + X, peak := P, pr := on σ.pr (j + 1) true, sv := on σ.sv (j + 1) true, cost := σ.cost + cc } := by rw [HP.out, HHX.out, HCC.out]; rfl
    refine ⟨rfl, ?_, ?_⟩
    · rw [e9]
      exact ((((HD.out.m.setp (j + 1) true).sets (j + 1) true).drew.cost (x := σ.cost + cc) (by simp))).drew
    · exact ((((HD.out.o.setCell (.inl (by simp)) _).setCell (.inl (by simp)) _).drew).setCell (.inl (by simp)) _).drew
  · obtain rfl : x = 3 := by omega
    obtain ⟨j, rfl⟩ : ∃ j, id = j + 1 := ⟨id - 1, by omega⟩
    obtain rfl : y = (j : Int) + 1 := by omega
    clear hx hy
    have t5 : (j : Int) + 1 < (L.cs.length : Int) + 1 := by omega
    have t6 : (j : Int) < (L.cs.length : Int) := by omega
    have t7 : (j : Int) + 1 - 1 = (j : Int) := by omega
    have e2 : IntKind.i64.wrap (j : Int) = (j : Int) := IntWalk.i64_in _ (by omega)
    go_enter Tryz.func35, Tryz.ntmps35
    go_wp2_with ((with_reducible refine (HL.out _ HB.out.o).mono ?_); rintro e w1 ⟨rfl, ho⟩; have HB1 := Lib.hid (HB.out.call ho); have b0 := HB1.out.b0; have b1 := HB1.out.b1; clear ho)
    (with_reducible refine (HM0.out _ HB1.out.o).mono ?_)
    rintro e w2 ⟨rfl, ho⟩
    have HB2 := Lib.hid (HB1.out.call ho)
    clear b0 b1 ho
    have b0 := HB2.out.b0
    have b1 := HB2.out.b1
    obtain ⟨a0, a1, a2, a3, a4, a5, a6, a7, a8, a9, a10, a11, a12, hq, fz⟩ := HB2.out.m.all
    have g0 := HB2.out.m.pr.at_ (i := j + 1) (by omega)
    have g1 := HB2.out.m.pr.free (j + 1)
    have g2 := HB2.out.m.pr.lt
    go_wp2_with fail
    go_quiet (fail)
    go_wp2_with fail
    go_region
    go_wp2_with fail
    have HD : Hid (D3 L { { σ with words := σ.words + X, peak := P } with pr := on σ.pr (j + 1) false } 3 ((j : Int) + 1) w ((w3 L X P nq σ w2).setCell ⟨L.gp, j + 1, none⟩ (.bool false))) := (d3_of HB2.out hq0).setp hp0 (j + 1) false
    clear a0 a1 a2 a3 a4 a5 a6 a7 a8 a9 a10 a11 a12 hq fz b0 b1 g0 g1 g2
    change Code.wp _ _ _ _ ((w3 L X P nq σ w2).setCell ⟨L.gp, j + 1, none⟩ (.bool false))
    generalize ((w3 L X P nq σ w2).setCell ⟨L.gp, j + 1, none⟩ (.bool false)) = W at HD ⊢
    obtain ⟨a0, a1, a2, a3, a4, a5, a6, a7, a8, a9, a10, a11, a12, hq, fz⟩ := HD.out.m.all
    dsimp only at a7 a8 a9 a10 a11 a12
    have b0 := HD.out.b0
    have b1 := HD.out.b1
    have hbl := HD.out.bl
    have l0 := HD.out.m.ws.at_ (i := j + 1) (by omega)
    have l1 := HW.out (by simp)
    obtain ⟨ww, hww⟩ : ∃ ww, ww = L.ws.getD (j + 1) 0 := ⟨_, rfl⟩
    rw [← hww] at l0 l1
    have HWW := Lib.hid hww
    have t8 : (j : Int) + 1 < (L.ws.length : Int) := by omega
    have t9 : ((σ.words + X : Nat) : Int) - ww = ((σ.words + X - ww : Nat) : Int) := by omega
    have e3 : IntKind.i64.wrap ((σ.words : Int) + X - ww) = ((σ.words + X - ww : Nat) : Int) := by rw [show (σ.words : Int) + X - ww = ((σ.words + X - ww : Nat) : Int) by omega]; exact IntWalk.i64_in _ (by omega)
    clear hww hlen
    go_region
    go_wp2_with fail
    go_ret
    have e9 : wdo L.ws L.cs L.cs.length σ 3 (j + 1) = { σ with words := σ.words + X - ww, peak := P, pr := on σ.pr (j + 1) false } := by rw [HP.out, HHX.out, HWW.out]; rfl
    refine ⟨rfl, ?_, ?_⟩
    · rw [e9]
      exact (HD.out.m.words (x := σ.words + X - ww) rfl).drew
    · exact (HD.out.o.setCell (.inl (by simp)) _).drew
  · obtain rfl : x = 6 := by omega
    obtain ⟨j, rfl⟩ : ∃ j, id = j + 1 := ⟨id - 1, by omega⟩
    obtain rfl : y = (j : Int) + 1 := by omega
    clear hx hy
    have t5 : (j : Int) + 1 < (L.cs.length : Int) + 1 := by omega
    have t6 : (j : Int) < (L.cs.length : Int) := by omega
    have t7 : (j : Int) + 1 - 1 = (j : Int) := by omega
    have e2 : IntKind.i64.wrap (j : Int) = (j : Int) := IntWalk.i64_in _ (by omega)
    go_enter Tryz.func35, Tryz.ntmps35
    go_wp2_with ((with_reducible refine (HL.out _ HB.out.o).mono ?_); rintro e w1 ⟨rfl, ho⟩; have HB1 := Lib.hid (HB.out.call ho); have b0 := HB1.out.b0; have b1 := HB1.out.b1; clear ho)
    (with_reducible refine (HM0.out _ HB1.out.o).mono ?_)
    rintro e w2 ⟨rfl, ho⟩
    have HB2 := Lib.hid (HB1.out.call ho)
    clear b0 b1 ho
    have b0 := HB2.out.b0
    have b1 := HB2.out.b1
    obtain ⟨a0, a1, a2, a3, a4, a5, a6, a7, a8, a9, a10, a11, a12, hq, fz⟩ := HB2.out.m.all
    go_wp2_with fail
    go_quiet (fail)
    go_wp2_with fail
    go_region
    go_wp2_with fail
    have HD : Hid (D3 L { σ with words := σ.words + X, peak := P } 6 ((j : Int) + 1) w (w3 L X P nq σ w2)) := d3_of HB2.out hq0
    clear a0 a1 a2 a3 a4 a5 a6 a7 a8 a9 a10 a11 a12 hq fz b0 b1
    change Code.wp _ _ _ _ (w3 L X P nq σ w2)
    generalize w3 L X P nq σ w2 = W at HD ⊢
    obtain ⟨a0, a1, a2, a3, a4, a5, a6, a7, a8, a9, a10, a11, a12, hq, fz⟩ := HD.out.m.all
    dsimp only at a7 a8 a9 a10 a11 a12
    have b0 := HD.out.b0
    have b1 := HD.out.b1
    have hbl := HD.out.bl
    have g0 := HD.out.m.gr.at_ (i := j + 1) (by omega)
    have g1 := HD.out.m.gr.free (j + 1)
    have k0 := HD.out.m.gr.at_ (i := j) (by omega)
    have k1 := HD.out.m.gr.free j
    have g2 := HD.out.m.gr.lt
    have l0 := HD.out.m.ws.at_ (i := j + 1) (by omega)
    have l1 := HW.out (by simp)
    obtain ⟨ww, hww⟩ : ∃ ww, ww = L.ws.getD (j + 1) 0 := ⟨_, rfl⟩
    rw [← hww] at l0 l1
    have HWW := Lib.hid hww
    have t8 : (j : Int) + 1 < (L.ws.length : Int) := by omega
    have e3 : IntKind.i64.wrap ((σ.words : Int) + X - ww) = ((σ.words + X - ww : Nat) : Int) := by rw [show (σ.words : Int) + X - ww = ((σ.words + X - ww : Nat) : Int) by omega]; exact IntWalk.i64_in _ (by omega)
    have e4 : IntKind.i64.wrap ((σ.last : Int) - 1) = (σ.last : Int) - 1 := IntWalk.i64_in _ (by omega)
    have hlast : 1 ≤ σ.last := by simp [wlegal] at hl; omega
    have t10 : decide ((1 : Int) < (j : Int) + 1) = decide (1 < j + 1) := by apply decide_eq_decide.2; omega
    clear hww hlen
    go_region
    go_wp2_with fail
    go_region
    go_wp2_with fail
    go_ret
    have e9 : wdo L.ws L.cs L.cs.length σ 6 (j + 1) = { σ with words := σ.words + X - ww, peak := P, gr := on (on σ.gr j (decide (0 < j))) (j + 1) false, last := σ.last - 1 } := by
      have e8 : decide (0 < j) = decide (1 < j + 1) := by apply decide_eq_decide.2; omega
      rw [HP.out, HHX.out, HWW.out, e8]; rfl
    refine ⟨rfl, ?_, ?_⟩
    · rw [e9]
      exact ((((HD.out.m.setg j (decide (0 < j))).setg (j + 1) false).words (x := σ.words + X - ww) rfl).last (x := σ.last - 1) (by omega)).drew.drew
    · exact ((((HD.out.o.setCell (.inl (by simp)) _).setCell (.inl (by simp)) _).setCell (.inl (by simp)) _).setCell (.inl (by simp)) _).drew.drew
end
end Go.Proofs.YtnpdcjdmbkcpbaaGreat.Ins
