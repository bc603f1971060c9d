/- Feed beside leavers: what it reaches, on every schedule. -/
import Derived.Test.YtminoelijdpmeaaLl
set_option linter.unusedSimpArgs false
namespace Go.Proofs.Ytminoelijdpmeaa
open Go.Conc Go.RowKit Lift
open Go.ConcN (upd upd_same upd_ne)

/-- The values that lie in a slice's cells. -/
def Vals (W : World) (b : Option Addr) (n : Nat) (vs : List Value) : Prop := vs.length = n ∧ ∀ i v, vs[i]? = some v → ∃ a, b = some a ∧ W.cell? (a.add i) = some v
/-- What Feed does. -/
def FS (args : Array Value) (w : World) (v : Value) (w' : World) : Prop :=
  ∃ b n cap vs, args = #[.slice b n cap] ∧ n ≤ 1000 ∧ n ≤ cap ∧ Vals w b n vs ∧ v = .chan (some (w.heap.size + 1)) ∧
    w' = FeedRun.wX w (.slice b n cap) (.chan n vs.toArray true n 0 false) (.chan 0 #[] true 0 0 false)

namespace FeedRun
section
variable {W : World} {N : Nat} {x : Value} {c e : Obj}
theorem wX_heap (W : World) (x : Value) (c e : Obj) : (wX W x c e).heap = ((((W.heap.push (.cells #[x] 22)).push c).push (.cells #[.chan (some (W.heap.size + 1))] 45)).push e).push (.cells #[.chan (some (W.heap.size + 1 + 1 + 1))] 46) := rfl
theorem wX_size (W : World) (x : Value) (c e : Obj) : (wX W x c e).heap.size = W.heap.size + 5 := by simp [wX_heap]
theorem wX_at (W : World) (x : Value) (c e : Obj) (i : Nat) : (wX W x c e).heap[i]? = if i = W.heap.size + 1 + 1 + 1 + 1 then some (.cells #[.chan (some (W.heap.size + 1 + 1 + 1))] 46) else if i = W.heap.size + 1 + 1 + 1 then some e else
    if i = W.heap.size + 1 + 1 then some (.cells #[.chan (some (W.heap.size + 1))] 45) else if i = W.heap.size + 1 then some c else if i = W.heap.size then some (.cells #[x] 22) else W.heap[i]? := by
  simp only [wX_heap, Array.getElem?_push, Array.size_push]
theorem wX_get1 (hN : W.heap.size = N) : (wX W x c e).heap[N + 1]? = some c := by
  subst hN; rw [wX_at, if_neg (by omega), if_neg (by omega), if_neg (by omega), if_pos rfl]
theorem wX_get3 (hN : W.heap.size = N) : (wX W x c e).heap[N + 3]? = some e := by
  subst hN; rw [wX_at, if_neg (by omega), if_pos rfl]
theorem wX_set1 (hN : W.heap.size = N) (cap : Nat) (buf : Array Value) (cl : Bool) (s r : Nat) (tm : Bool) : (wX W x c e).setChan (N + 1) cap buf cl s r tm = wX W x (.chan cap buf cl s r tm) e := by
  subst hN
  unfold World.setChan
  have : (wX W x c e).heap.setIfInBounds (W.heap.size + 1) (.chan cap buf cl s r tm) = (wX W x (.chan cap buf cl s r tm) e).heap := by
    apply Array.ext_getElem?
    intro i
    rw [Array.getElem?_setIfInBounds]
    simp only [wX_heap, Array.getElem?_push, Array.size_push]
    by_cases h : W.heap.size + 1 = i
    · subst h; simp
    · rw [if_neg h]
      have h' : ¬ i = W.heap.size + 1 := fun h' => h h'.symm
      simp [h']
  rw [this]; rfl
theorem wX_set3 (hN : W.heap.size = N) (cap : Nat) (buf : Array Value) (cl : Bool) (s r : Nat) (tm : Bool) : (wX W x c e).setChan (N + 3) cap buf cl s r tm = wX W x c (.chan cap buf cl s r tm) := by
  subst hN
  unfold World.setChan
  have : (wX W x c e).heap.setIfInBounds (W.heap.size + 3) (.chan cap buf cl s r tm) = (wX W x c (.chan cap buf cl s r tm)).heap := by
    apply Array.ext_getElem?
    intro i
    rw [Array.getElem?_setIfInBounds]
    simp only [wX_heap, Array.getElem?_push, Array.size_push]
    by_cases h : W.heap.size + 3 = i
    · subst h; simp
    · rw [if_neg h]
      have h' : ¬ i = W.heap.size + 1 + 1 + 1 := fun h' => h (by omega)
      simp [h']
  rw [this]; rfl
theorem wX_kf (hN : W.heap.size = N) : KF W N x (wX W x c e) := by
  subst hN
  refine ⟨?_, ?_, ?_, fun p hp => ?_⟩
  · have := wX_at W x c e W.heap.size
    rw [if_neg (by omega), if_neg (by omega), if_neg (by omega), if_neg (by omega), if_pos rfl] at this
    simp [World.cell?, xv, this]
  · have := wX_at W x c e (W.heap.size + 2)
    rw [if_neg (by omega), if_neg (by omega), if_pos rfl] at this
    simp [World.cell?, cv, this]
  · have := wX_at W x c e (W.heap.size + 4)
    rw [if_pos rfl] at this
    simp [World.cell?, dv, this]
  · have := wX_at W x c e p.block
    rw [if_neg (by omega), if_neg (by omega), if_neg (by omega), if_neg (by omega), if_neg (by omega)] at this
    simp only [World.cell?, this]
end

theorem setChan_at (w : World) (d c cap : Nat) (buf : Array Value) (cl : Bool) (s r : Nat) (tm : Bool) : (w.at d).setChan c cap buf cl s r tm = (w.setChan c cap buf cl s r tm).at d := rfl
theorem at_at (w : World) (d d' : Nat) : (w.at d).at d' = w.at d' := rfl

/-- Goroutine 0 alone has a seat. -/
noncomputable def Inb1 (s0 : Seat) : Nat → Option Seat := upd (fun _ => none) 0 (some s0)
theorem inb1_some {s0 s : Seat} {i : Nat} (h : Inb1 s0 i = some s) : i = 0 ∧ s = s0 := by
  unfold Inb1 at h
  by_cases e : i = 0
  · subst e; rw [upd_same] at h; exact ⟨rfl, (Option.some.inj h).symm⟩
  · rw [upd_ne _ _ e] at h; cases h

section
variable {W : World} {N : Nat} {b : Option Addr} {n cap : Nat} {vs : List Value} {fr : Frame} {C : List Frame}
theorem hKat {x : Value} : ∀ w d, KF W N x w → KF W N x (w.at d) := fun _ d h => h.at d
theorem has0 {x : Value} {c : Nat} (h : (seat0 W N x fr C).has c) : c = N + 3 := Seat.one_has.1 h
theorem hKc {x : Value} : ∀ w i s c cap buf cl a b tm, Inb1 (seat0 W N x fr C) i = some s → s.has c → KF W N x w → KF W N x (w.setChan c cap buf cl a b tm) := by
  intro w i s c cap buf cl a b tm e hc h
  obtain ⟨_, rfl⟩ := inb1_some e
  exact h.setChan (.inr (has0 hc)) _ _ _ _ _ _
theorem noq {x : Value} : ∀ i s, Inb1 (seat0 W N x fr C) i = some s → ¬ s.has (N + 1) := by
  intro i s e hc
  obtain ⟨_, rfl⟩ := inb1_some e
  have := has0 hc
  omega

/-- The channel is filled, value by value. -/
theorem rounds (hN : W.heap.size = N) (hn : n ≤ 1000) (hV : Vals W b n vs) {h : Nat} (hh : h ≠ 0) {Mem : Nat → Prop} : ∀ (r k : Nat), k + r = n → ∀ (gs : Array Goroutine) (d : Nat) (sl : Option (Nat × Nat)) (T : Trace) (q : Nat → Nat) (j4 j8 j9 j10 j11 j12 j13 : Value),
    gs[h]? = some (HW N (.slice b n cap) n k j4 j8 j9 j10 j11 j12 j13) →
    Ring Try.prog (KF W N (.slice b n cap)) (StillF N) (N + 5) Mem (Inb1 (seat0 W N (.slice b n cap) fr C)) h T gs ((wX W (.slice b n cap) (.chan n (vs.take k).toArray false k 0 false) (.chan 0 #[] false 0 0 false)).at d) q →
    ∃ (M : Nat) (gs' : Array Goroutine) (d' : Nat) (sl' : Option (Nat × Nat)) (T' : Trace) (q' : Nat → Nat) (j4 j8 j9 j10 j11 j12 j13 : Value),
      runNT Try.prog M (crowd gs ((wX W (.slice b n cap) (.chan n (vs.take k).toArray false k 0 false) (.chan 0 #[] false 0 0 false)).at d) sl) T = (.next (crowd gs' ((wX W (.slice b n cap) (.chan n vs.toArray false n 0 false) (.chan 0 #[] false 0 0 false)).at d') sl'), T') ∧ gs'.size = gs.size ∧
      gs'[h]? = some (HW N (.slice b n cap) n n j4 j8 j9 j10 j11 j12 j13) ∧
      Ring Try.prog (KF W N (.slice b n cap)) (StillF N) (N + 5) Mem (Inb1 (seat0 W N (.slice b n cap) fr C)) h T' gs' ((wX W (.slice b n cap) (.chan n vs.toArray false n 0 false) (.chan 0 #[] false 0 0 false)).at d') q' := by
  have hm : (h == 0) = false := by simp [hh]
  intro r
  induction r with
  | zero =>
    intro k hr gs d sl T q j4 j8 j9 j10 j11 j12 j13 hg R
    obtain rfl : k = n := by omega
    have e : vs.take k = vs := List.take_of_length_le (by rw [hV.1]; exact Nat.le_refl _)
    rw [e] at R ⊢
    exact ⟨0, gs, d, sl, T, q, j4, j8, j9, j10, j11, j12, j13, rfl, rfl, hg, R⟩
  | succ r ih =>
    intro k hr gs d sl T q j4 j8 j9 j10 j11 j12 j13 hg R
    have hlt : k < n := by omega
    have hlt' : k < vs.length := by rw [hV.1]; exact hlt
    obtain ⟨a, rfl, hv⟩ := hV.2 k vs[k] (List.getElem?_eq_getElem hlt')
    have hab : a.block < N := by
      have := cell_low hv
      rw [addr_add_block, hN] at this
      exact this
    obtain ⟨M1, gs1, a1, w1, sl1, T1, q1, r1, z1, h1, ⟨⟨d1, rfl⟩, hrun1, g₂, es, hes, hst, hHome⟩, R1⟩ := hold_walk (sl := sl) hKat (dq_dh (K := KF W N (.slice (some a) n cap)) (Inb1 (seat0 W N (.slice (some a) n cap) fr C))) hg R (by rw [hm]; exact w_round W N a n cap k hn hlt hab _ hv j4 j8 j9 j10 j11 j12 j13 _ R.keep)
    simp only [at_at] at R1 r1 hst
    obtain ⟨M2, gs2, d2, sl2, T2, q2, r2, z2, h2, R2⟩ := hold_send_room (sl := sl1) hKat (fun w cp bf cl x y tm hk => hk.setChan (.inl rfl) cp bf cl x y tm) h1 hrun1 R1 noq (by omega) (fun d => by rw [hm]; exact hst d) hes (wX_get1 hN) (by simp; omega)
    rw [finishComm_send] at h2
    rw [at_at, setChan_at, wX_set1 hN] at R2 r2
    have e : (vs.take k).toArray.push vs[k] = (vs.take (k + 1)).toArray := by
      rw [List.push_toArray, List.take_succ_eq_append_getElem hlt']
    rw [e] at R2 r2
    obtain ⟨M3, gs3, a3, w3, sl3, T3, q3, r3, z3, h3, ⟨⟨d3, rfl⟩, k4, k8, k9, k10, k11, k12, k13, rfl⟩, R3⟩ := hold_walk (sl := sl2) hKat (dq_dh (K := KF W N (.slice (some a) n cap)) (Inb1 (seat0 W N (.slice (some a) n cap) fr C))) h2 R2 (by rw [hm]; exact hHome _)
    simp only [at_at] at R3 r3
    obtain ⟨M4, gs4, d4, sl4, T4, q4, l4, l8, l9, l10, l11, l12, l13, r4, z4, h4, R4⟩ := ih (k + 1) (by omega) gs3 d3 sl3 T3 q3 k4 k8 k9 k10 k11 k12 k13 h3 R3
    exact ⟨M1 + M2 + M3 + M4, gs4, d4, sl4, T4, q4, l4, l8, l9, l10, l11, l12, l13, runNT_then (runNT_then (runNT_then r1 r2) r3) r4, by omega, h4, R4⟩
end
end FeedRun
end Go.Proofs.Ytminoelijdpmeaa
