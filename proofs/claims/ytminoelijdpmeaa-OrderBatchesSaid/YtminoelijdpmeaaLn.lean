/- Feed beside leavers: the driver: on every schedule it returns the filled channel, and its goroutine only leaves. -/
import Derived.Test.YtminoelijdpmeaaLm
set_option linter.unusedSimpArgs false
namespace Go.Proofs.Ytminoelijdpmeaa
open Go.Conc Go.RowKit Lift
open Go.ConcN (upd upd_same upd_ne)
namespace FeedRun

set_option maxRecDepth 100000 in
theorem feed_own (args : Array Value) (W : World) (v : Value) (w' : World) (hF : FS args W v w') (c : Frame) (C : List Frame) :
    Reaches Try.prog (Gor (Frame.enter Try.prog 16 args .normal) (c :: C)) W fun g' w₁ => g' = Gor (c.finish v) C ∧ ∃ d, w₁ = w'.at d := by
  obtain ⟨b, n, cap, vs, rfl, hn, _, hV, rfl, rfl⟩ := hF
  obtain ⟨N, hN⟩ : ∃ N, W.heap.size = N := ⟨_, rfl⟩
  rw [hN]
  have e : Frame.enter Try.prog 16 #[.slice b n cap] .normal = (base 16).at ⟨#[.slice b n cap, undef, undef, undef, undef, undef, undef, undef, undef, undef, undef, undef, undef], []⟩ [.code body16] := by
    simp [Frame.enter, Frame.at, Try.func16, base, body16, Try.f16]
  rw [e]
  intro gs sl t q hA
  have hpos : 0 < gs.size := (Array.getElem?_eq_some_iff.1 hA.zero).1
  have R0 : Ring Try.prog (fun _ => True) (fun _ => False) (N + 5) (fun g => g = 0) (fun _ => none) 0 t gs W q :=
    ring_begin (fun _ z => z.elim) hA.lv (hA.past.mono (by omega)) trivial
  obtain ⟨M0, gs0, a0, w0, sl0, T0, q0, r0, z0, h00, ⟨⟨d0, rfl⟩, hrun0, a1, child, es0, hes0, hgo0, hch, hS0⟩, R0'⟩ := hold_walk (sl := sl) (fun _ _ _ => trivial) (fun _ _ _ h => h) hA.zero R0 (g0_all b n cap hn W N hN c C)
  have hch' : child = born Try.prog (call19 N) := hch
  subst hch'
  obtain ⟨L0, P0⟩ := ring_end R0' rfl (fun _ _ => rfl)
  have R1 : Ring Try.prog (KF W N (.slice b n cap)) (StillF N) (N + 5) (fun g => g = 0) (fun _ => none) 0 T0 gs0 ((wX W (.slice b n cap) (.chan n #[] false 0 0 false) (.chan 0 #[] false 0 0 false)).at d0) q0 :=
    ring_begin (fun l hl => by rw [show l = .cell (dv N) from hl]; rfl) L0 P0 ((wX_kf hN).at d0)
  have R2 : Ring Try.prog (KF W N (.slice b n cap)) (StillF N) (N + 5) (fun g => g = 0) (Inb1 (seat0 W N (.slice b n cap) c C)) 0 T0 gs0 ((wX W (.slice b n cap) (.chan n #[] false 0 0 false) (.chan 0 #[] false 0 0 false)).at d0) q0 :=
    R1.reseat rfl (seat0 W N (.slice b n cap) c C) (Seat.one_wf _ _ _ _) (fun _ _ _ _ e => by cases e) (fun x hx => ⟨0, 0, by rw [has0 hx]; exact wX_get3 hN⟩) (fun x hx => by rw [has0 hx]; omega)
  -- the token goes to the worker at the go statement
  have hz : gs0.size ≠ 0 := by omega
  have hzi : Inb1 (seat0 W N (.slice b n cap) c C) gs0.size = none := upd_ne _ _ hz
  obtain ⟨M1, gs1, d1, sl1, T1, q1, r1, z1, h11, R3⟩ := hire_give (sl := sl0) (Mem := fun g => g = 0) hKat rfl h00 hrun0 hgo0 hes0 R2 hzi (Inb' := Inb1 (seat0 W N (.slice b n cap) c C)) (fun _ _ => rfl) (.inl rfl) (nh := 6) (fun _ _ => hS0)
  rw [at_at] at R3 r1
  generalize hh : gs0.size = h at h11 R3 hz z1
  have hm : (h == 0) = false := by simp [hz]
  have hD := dq_dh (Still := StillF N) (B := N + 5) (K := KF W N (.slice b n cap)) (Inb1 (seat0 W N (.slice b n cap) c C))
  -- to the loop's head
  obtain ⟨M2, gs2, a2, w2, sl2, T2, q2, r2, z2, h2, ⟨⟨d2, rfl⟩, k4, k8, k9, k10, k11, k12, k13, rfl⟩, R4⟩ := hold_walk (sl := sl1) hKat hD h11 R3 (by rw [hm]; exact w_birth W N b n cap _ R3.keep)
  rw [at_at] at R4 r2
  -- the rounds
  obtain ⟨M3, gs3, d3, sl3, T3, q3, l4, l8, l9, l10, l11, l12, l13, r3, z3, h3, R5⟩ := rounds hN hn hV hz n 0 (Nat.zero_add n) gs2 d2 sl2 T2 q2 k4 k8 k9 k10 k11 k12 k13 h2 R4
  -- close(c)
  obtain ⟨M4, gs4, a4, w4, sl4, T4, q4, r4, z4, h4, ⟨⟨d4, rfl⟩, hrun4, a4', hcl4, hAf4⟩, R6⟩ := hold_walk (sl := sl3) hKat hD h3 R5 (by rw [hm]; exact w_exit W N (.slice b n cap) n l4 l8 l9 l10 l11 l12 l13 _ R5.keep)
  rw [at_at] at R6 r4
  obtain ⟨M5, gs5, d5, sl5, T5, q5, r5, z5, h5, R7⟩ := hold_close (sl := sl4) hKat (fun w cp bf cl x y tm hk => hk.setChan (.inl rfl) cp bf cl x y tm) h4 hrun4 R6 noq (by omega) (fun d => by rw [hm]; exact hcl4 _ _ _ _ _ (wX_get1 hN) d)
  rw [at_at, setChan_at, wX_set1 hN] at R7 r5
  -- close(done)
  obtain ⟨M6, gs6, a6, w6, sl6, T6, q6, r6, z6, h6, ⟨⟨d6, rfl⟩, hrun6, hwake6, a6', ha6', hclose6, hQ6⟩, R8⟩ := hold_walk (sl := sl5) hKat hD h5 R7 (by rw [hm]; exact hAf4 _ R7.keep)
  rw [at_at] at R8 r6
  have h0lt : 0 < gs6.size := by omega
  obtain ⟨M7, gs7, g7, d7, sl7, T7, q7, r7, z7, h7, hh7, R9⟩ := give_close (sl := sl6) (Mem := fun g => (g = 0 ∧ Inb1 (seat0 W N (.slice b n cap) c C) g ≠ none) ∨ g = h) (w := (wX W (.slice b n cap) (.chan n vs.toArray true n 0 false) (.chan 0 #[] false 0 0 false)).at d6) (j := 0) (s := seat0 W N (.slice b n cap) c C) (c := N + 3) (kk := 0) (z := .agg #[]) (k := 0) (cap := 0) hKat hKc (fun z => hz z.symm) h0lt rfl rfl (.inr rfl) h6 hrun6 hwake6 ha6' (wX_get3 hN) (fun d => by rw [hm]; exact hclose6 _ _ (wX_get3 hN) d) R8
    (Inb' := fun _ => none) (fun x h1 h0 => by unfold Inb1; rw [upd_ne _ _ h0]) (.inr rfl) rfl (nh := 4) (fun T' hd => ⟨Nat.pos_of_ne_zero hz, hd ▸ hQ6⟩)
  rw [at_at, setChan_at, wX_set3 hN] at R9 r7
  -- to the return
  have hD0 := dq_dh (Still := StillF N) (B := N + 5) (K := KF W N (.slice b n cap)) (fun _ => none)
  obtain ⟨M8, gs8, a8, w8, sl8, T8, q8, r8, z8, h8, ⟨rfl, d8, rfl⟩, R10⟩ := hold_walk (sl := sl7) hKat hD0 h7 R9 (hh7 _ R9.keep)
  rw [at_at] at R10 r8
  obtain ⟨L, Pp⟩ := ring_end R10 ⟨.inl ⟨rfl, by simp [Inb1, upd_same]⟩, .inr rfl⟩ (fun _ _ => rfl)
  refine ⟨M0 + M1 + M2 + M3 + M4 + M5 + M6 + M7 + M8, gs8, _, _, sl8, T8, q8, runNT_then (runNT_then (runNT_then (runNT_then (runNT_then (runNT_then (runNT_then (runNT_then r0 r1) r2) r3) r4) r5) r6) r7) r8, ⟨h8, L, ?_⟩, rfl, d8, rfl⟩
  have : ((wX W (.slice b n cap) (.chan n vs.toArray true n 0 false) (.chan 0 #[] true 0 0 false)).at d8).heap.size = N + 5 := by
    show (wX W (.slice b n cap) (.chan n vs.toArray true n 0 false) (.chan 0 #[] true 0 0 false)).heap.size = N + 5
    rw [wX_size, hN]
  rw [this]
  exact Pp
end FeedRun
end Go.Proofs.Ytminoelijdpmeaa
