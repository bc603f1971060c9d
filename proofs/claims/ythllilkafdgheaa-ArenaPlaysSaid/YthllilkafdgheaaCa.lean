/- The reference's list of blocks as it reads; the walks of its Live, Find and free. Condition: the list reads as blocks. -/
import Derived.Test.YthllilkafdgheaaBf
namespace Go.Proofs.Ythllilkafdgheaa
open Go.RowKit
set_option linter.unusedVariables false
set_option linter.unusedSimpArgs false

/-- A block of the reference: the block, and where its cells lie. -/
structure RB where
  b : Blk
  base : Option Addr
  c : Nat
/-- Blocks of the reference as cells. -/
def rcs : List RB → List Value
  | [] => []
  | x :: r => .int .i64 x.b.h :: .int .i64 x.b.f :: .int .i64 x.b.n :: .slice x.base x.b.d.length x.c :: rcs r
def blks (R : List RB) : List Blk := R.map RB.b
theorem blks_length (R : List RB) : (blks R).length = R.length := by simp [blks]
theorem blks_get {R : List RB} {i : Nat} {x : RB} (h : R[i]? = some x) : (blks R)[i]? = some x.b := by unfold blks; rw [List.getElem?_map, h]; rfl
theorem rcs_length (R : List RB) : (rcs R).length = R.length * 4 := by
  induction R with
  | nil => rfl
  | cons x r ih => simp only [rcs, List.length_cons, ih]; omega
theorem rcs_append (l m : List RB) : rcs (l ++ m) = rcs l ++ rcs m := by
  induction l with
  | nil => rfl
  | cons x r ih => simp [rcs, ih]
theorem rcs_get : ∀ (R : List RB) (i : Nat) (x : RB), R[i]? = some x → (rcs R)[i * 4]? = some (.int .i64 x.b.h) ∧ (rcs R)[i * 4 + 1]? = some (.int .i64 x.b.f) ∧ (rcs R)[i * 4 + 2]? = some (.int .i64 x.b.n) ∧ (rcs R)[i * 4 + 3]? = some (.slice x.base x.b.d.length x.c)
  | x :: r, 0, b, h => by simp at h; subst h; simp [rcs]
  | x :: r, i + 1, b, h => by
    have := rcs_get r i b (by simpa using h)
    rw [show (i + 1) * 4 = i * 4 + 4 by omega]
    simpa [rcs] using this
theorem rcs_one : ∀ (R : List RB), ∀ u ∈ rcs R, u.oneCell' = true
  | x :: r, u, h => by
    simp only [rcs, List.mem_cons] at h
    rcases h with rfl | rfl | rfl | rfl | h
    · rfl
    · rfl
    · rfl
    · rfl
    · exact rcs_one r u h

/-- A block's cells, in memory of B. -/
def RdC (B : List Nat) (x : RB) (W : World) : Prop := ReadsI x.base x.b.d.length x.b.d W ∧ ∀ ad, x.base = some ad → ad.block ∈ B
/-- The list, in memory of B. -/
def RdR (B : List Nat) (v : Value) (R : List RB) (W : World) : Prop :=
  (∃ base cap, v = .slice base R.length cap ∧ (R.length ≤ cap ∧ cap ≤ maxLen) ∧ ∀ j u, (rcs R)[j]? = some u → ∃ g off, base = some ⟨g, off, none⟩ ∧ g ∈ B ∧ W.cell? ⟨g, off + j, none⟩ = some u) ∧ ∀ x, x ∈ R → RdC B x W
theorem ReadsI.othB {base : Option Addr} {n : Nat} {l : List Int} {w w' : World} {T : List Nat} (h : ReadsI base n l w) (ho : Oth T w w') (hd : ∀ ad, base = some ad → ad.block ∉ T) : ReadsI base n l w' := by
  obtain ⟨h1, h2, h3, h4⟩ := h
  refine ⟨h1, h2, h3, fun i k hi => ?_⟩
  obtain ⟨g, off, hb, c⟩ := h4 i k hi
  exact ⟨g, off, hb, ho.cell c (hd ⟨g, off, none⟩ hb)⟩
theorem RdC.oth {B T : List Nat} {x : RB} {W W' : World} (h : RdC B x W) (ho : Oth T W W') (hd : ∀ k, k ∈ B → k ∉ T) : RdC B x W' := ⟨h.1.othB ho (fun ad had => hd _ (h.2 ad had)), h.2⟩
theorem RdC.sub {B B' : List Nat} {x : RB} {W : World} (h : RdC B x W) (hs : ∀ k, k ∈ B → k ∈ B') : RdC B' x W := ⟨h.1, fun ad had => hs _ (h.2 ad had)⟩
theorem RdR.oth {B T : List Nat} {v : Value} {R : List RB} {W W' : World} (h : RdR B v R W) (ho : Oth T W W') (hd : ∀ k, k ∈ B → k ∉ T) : RdR B v R W' := by
  obtain ⟨⟨base, cap, rfl, h0, h1⟩, h2⟩ := h
  refine ⟨⟨base, cap, rfl, h0, fun j u hu => ?_⟩, fun x hx => (h2 x hx).oth ho hd⟩
  obtain ⟨g, off, hb, hg, hc⟩ := h1 j u hu
  exact ⟨g, off, hb, hg, ho.cell hc (hd g hg)⟩
theorem RdR.quiet {B : List Nat} {v : Value} {R : List RB} {W W' : World} (h : RdR B v R W) (ho : Oth [] W W') : RdR B v R W' := h.oth ho (by simp)
/-- The four cells of one block. -/
theorem RdR.at {B : List Nat} {base : Option Addr} {n cap : Nat} {R : List RB} {W : World} (h : RdR B (.slice base n cap) R W) {i : Nat} {x : RB} (hx : R[i]? = some x) :
    n = R.length ∧ ∃ g off, base = some ⟨g, off, none⟩ ∧ g ∈ B ∧ W.cell? ⟨g, off + i * 4, none⟩ = some (.int .i64 x.b.h) ∧ W.cell? ⟨g, off + i * 4 + 1, none⟩ = some (.int .i64 x.b.f) ∧ W.cell? ⟨g, off + i * 4 + 2, none⟩ = some (.int .i64 x.b.n) ∧ W.cell? ⟨g, off + i * 4 + 3, none⟩ = some (.slice x.base x.b.d.length x.c) := by
  obtain ⟨⟨base', cap', he, h0, h1⟩, h2⟩ := h
  injection he with e1 e2 e3
  subst e1
  obtain ⟨k0, k1, k2, k3⟩ := rcs_get R i x hx
  obtain ⟨g, off, rfl, hg, c0⟩ := h1 _ _ k0
  refine ⟨e2, g, off, rfl, hg, c0, ?_, ?_, ?_⟩
  · obtain ⟨g', off', e, _, c⟩ := h1 _ _ k1; cases e; rw [Nat.add_assoc]; exact c
  · obtain ⟨g', off', e, _, c⟩ := h1 _ _ k2; cases e; rw [Nat.add_assoc]; exact c
  · obtain ⟨g', off', e, _, c⟩ := h1 _ _ k3; cases e; rw [Nat.add_assoc]; exact c
theorem RdR.slice {B : List Nat} {v : Value} {R : List RB} {W : World} (h : RdR B v R W) : ∃ base cap, v = .slice base R.length cap := by
  obtain ⟨⟨base, cap, he, _⟩, _⟩ := h; exact ⟨base, cap, he⟩
theorem RdR.parts {B : List Nat} {base : Option Addr} {n cap : Nat} {R : List RB} {W : World} (h : RdR B (.slice base n cap) R W) : n = R.length ∧ n ≤ cap ∧ cap ≤ maxLen ∧ (∀ j u, (rcs R)[j]? = some u → ∃ g off, base = some ⟨g, off, none⟩ ∧ g ∈ B ∧ W.cell? ⟨g, off + j, none⟩ = some u) ∧ ∀ x, x ∈ R → RdC B x W := by
  obtain ⟨⟨base', cap', he, h0, h1⟩, h2⟩ := h
  injection he with e1 e2 e3
  subst e1; subst e3
  exact ⟨e2, by omega, h0.2, h1, h2⟩
theorem rdr_of_owns {B0 : Nat} {B : List Nat} {v : Value} {n : Nat} {R : List RB} {W : World} (h : W.ownsRow B0 77 4 v n (rcs R)) (hn : n = R.length) (hc : ∀ x, x ∈ R → RdC B x W) : RdR (v.ownBlock.toList ++ B) v R W := by
  subst hn
  refine ⟨?_, fun x hx => (hc x hx).sub (by simp; intro k hk; exact .inr hk)⟩
  rcases h.2 with ⟨rfl, h0⟩ | ⟨g, cap, cur, rfl, h2, h3, h4, h5, h6, h7⟩
  · have hR : R = [] := List.eq_nil_of_length_eq_zero h0
    subst hR
    exact ⟨none, 0, rfl, ⟨Nat.le_refl _, Nat.zero_le _⟩, fun j u hu => by simp [rcs] at hu⟩
  · refine ⟨some ⟨g, 0, none⟩, cap, rfl, ⟨h4, h5⟩, fun j u hu => ⟨g, 0, rfl, by simp [Value.ownBlock], ?_⟩⟩
    rw [← h7, List.getElem?_take] at hu
    split at hu
    · rw [Array.getElem?_toList] at hu
      simp only [World.cell?, h3, Nat.zero_add]; exact hu
    · cases hu

theorem sumN_boundC {M : List Blk} {B : Nat} (h : ∀ x, x ∈ M → x.n ≤ B) : sumN M ≤ M.length * B := by
  induction M with
  | nil => simp [sumN]
  | cons x r ih =>
    have h1 := ih (fun y hy => h y (by simp [hy]))
    have h2 := h x (by simp)
    rw [sumN_cons, List.length_cons, Nat.succ_mul]; omega
/-- No word of a stretch is a block's. -/
def FreeAt (M : List Blk) (cap fr words : Nat) : Prop := (∀ x, x ∈ M → ¬ (x.f < fr + words ∧ fr < x.f + x.n)) ∧ fr + words ≤ cap
def FreeRes (M : List Blk) (cap fr words : Nat) (e : Ending) : Prop := ∃ b, e = .returned (.bool b) ∧ (b = true ↔ FreeAt M cap fr words)
/-- The first i blocks leave a stretch. -/
def NoOv (R : List RB) (i fr words : Nat) : Prop := ∀ (j : Nat) (x : RB), j < i → R[j]? = some x → ¬ (x.b.f < fr + words ∧ fr < x.b.f + x.b.n)
/-- The reference's state as a value. -/
def sval (s : St) (v : Value) : Value := .agg #[.int .i64 s.cap, .int .i64 s.next, .int .i64 s.high, .int .i64 s.peak, .int .i64 s.moves, v]

set_option maxHeartbeats 4000000 in
set_option maxRecDepth 100000 in
theorem Live_ref (B : List Nat) (s : St) (base : Option Addr) (n cap : Nat) (R : List RB) (w : World) (hR : RdR B (.slice base n cap) R w) (hn : n = R.length) (h1 : n ≤ 1000) (hb : ∀ x, x ∈ R → x.b.n ≤ 16777216) :
    Calls Try.prog 38 #[sval s (.slice base n cap)] w fun e w' => e = .returned (.int .i64 (sumN (blks R))) ∧ Oth [] w w' := by
  have HR := Lib.hid hR
  have HN := Lib.hid hn
  have HB := Lib.hid hb
  unfold sval
  clear hR hn hb
  go_enter Try.func38, Try.ntmps38
  go_wp2_with fail
  obtain ⟨W0, hW0⟩ : ∃ W0, W0 = w.alloc (.cells #[.int .i64 s.cap, .int .i64 s.next, .int .i64 s.high, .int .i64 s.peak, .int .i64 s.moves, .slice base n cap] 55) := ⟨_, rfl⟩
  have ho0 : Oth [] w W0 := by rw [hW0]; exact (Oth.refl _ _).alloc _
  have hs0 : W0.heap[w.heap.size]? = some (.cells #[.int .i64 s.cap, .int .i64 s.next, .int .i64 s.high, .int .i64 s.peak, .int .i64 s.moves, .slice base n cap] 55 (0, 0)) := by rw [hW0]; exact heap_alloc_new _ _
  obtain ⟨sb, hsb⟩ : ∃ sb, sb = w.heap.size := ⟨_, rfl⟩
  rw [← hW0, ← hsb]
  rw [← hsb] at hs0
  have c5 : W0.cell? ⟨sb, 5, none⟩ = some (.slice base n cap) := by simp [World.cell?, hs0]
  have c0 : W0.cell? ⟨sb, 0, none⟩ = some (.int .i64 s.cap) := by simp [World.cell?, hs0]
  have HR0 := Lib.hid (HR.out.quiet ho0)
  clear hW0 hsb hs0 HR
  go_loop [3, 4] (fun v x => ∃ i : Nat, i ≤ n ∧ x = .int .i64 i ∧ v = .int .i64 (sumN ((blks R).take i))) (fun _ x => (n - intOf x).toNat)
  case atStart => exact ⟨0, by omega, rfl, rfl⟩
  case round =>
    obtain ⟨i, hin, rfl, rfl⟩ := hrel
    by_cases hlt : i < n
    · have t1 : (i : Int) < (n : Int) := by omega
      obtain ⟨x, hx⟩ : ∃ x, R[i]? = some x := ⟨_, List.getElem?_eq_getElem (by have := HN.out; omega)⟩
      obtain ⟨_, g, off, rfl, hg, d0, d1, d2, d3⟩ := HR0.out.at hx
      have hbn := HB.out x (List.mem_of_getElem? hx)
      have HS : Hid (sumN ((blks R).take (i + 1)) = sumN ((blks R).take i) + x.b.n) := sumN_take_succ (blks_get hx)
      have hsb : sumN ((blks R).take i) ≤ i * 16777216 := by
        have := sumN_boundC (M := (blks R).take i) (B := 16777216) (fun y hy => by
          obtain ⟨z, hz, rfl⟩ := List.mem_map.1 (List.mem_of_mem_take hy)
          exact HB.out z hz)
        rw [List.length_take, blks_length, ← HN.out] at this
        have h5 : min i n = i := by omega
        rw [h5] at this; exact this
      obtain ⟨sv, hsv⟩ : ∃ a, a = sumN ((blks R).take i) := ⟨_, rfl⟩
      obtain ⟨xn, hxn⟩ : ∃ a, a = x.b.n := ⟨_, rfl⟩
      rw [← hsv] at HS hsb ⊢
      rw [← hxn] at HS hbn d2
      have t5 : IntKind.i64.wrap ((sv : Int) + (xn : Int)) = (sv : Int) + (xn : Int) := by rw [IntKind.wrap_i64]; omega
      clear hx hsv hxn d0 d1 d3
      go_wp2_with fail
      go_round
      case rel => exact ⟨i + 1, by omega, by go_num, by rw [HS.out]; congr 1⟩
      case measure => simp [intOf]; omega
    · obtain rfl : i = n := by omega
      have t1 : ¬ (i : Int) < (i : Int) := by omega
      rw [List.take_of_length_le (by rw [blks_length]; have := HN.out; omega)]
      go_wp2
      go_ret
      exact ⟨rfl, ho0⟩
set_option maxHeartbeats 4000000 in
set_option maxRecDepth 100000 in
theorem Find_ref (B : List Nat) (s : St) (k : Int) (base : Option Addr) (n cap : Nat) (R : List RB) (w : World) (hR : RdR B (.slice base n cap) R w) (hn : n = R.length) (h1 : n ≤ 1000) :
    Calls Try.prog 35 #[sval s (.slice base n cap), .int .i64 k] w fun e w' => ((∃ (j : Nat) (x : RB), R[j]? = some x ∧ k = x.b.h ∧ e = .returned (.int .i64 j)) ∨ ((∀ x, x ∈ R → (x.b.h : Int) ≠ k) ∧ e = .returned (.int .i64 (-1)))) ∧ Oth [] w w' := by
  have HR := Lib.hid hR
  have HN := Lib.hid hn
  unfold sval
  clear hR hn
  go_enter Try.func35, Try.ntmps35
  go_wp2_with fail
  obtain ⟨W0, hW0⟩ : ∃ W0, W0 = w.alloc (.cells #[.int .i64 s.cap, .int .i64 s.next, .int .i64 s.high, .int .i64 s.peak, .int .i64 s.moves, .slice base n cap] 55) := ⟨_, rfl⟩
  have ho0 : Oth [] w W0 := by rw [hW0]; exact (Oth.refl _ _).alloc _
  have hs0 : W0.heap[w.heap.size]? = some (.cells #[.int .i64 s.cap, .int .i64 s.next, .int .i64 s.high, .int .i64 s.peak, .int .i64 s.moves, .slice base n cap] 55 (0, 0)) := by rw [hW0]; exact heap_alloc_new _ _
  obtain ⟨sb, hsb⟩ : ∃ sb, sb = w.heap.size := ⟨_, rfl⟩
  rw [← hW0, ← hsb]
  rw [← hsb] at hs0
  have c5 : W0.cell? ⟨sb, 5, none⟩ = some (.slice base n cap) := by simp [World.cell?, hs0]
  have c0 : W0.cell? ⟨sb, 0, none⟩ = some (.int .i64 s.cap) := by simp [World.cell?, hs0]
  have HR0 := Lib.hid (HR.out.quiet ho0)
  clear hW0 hsb hs0 HR
  go_loop [5] (fun x => ∃ i : Nat, i ≤ n ∧ x = .int .i64 i ∧ Hid (∀ (j : Nat) (x : RB), j < i → R[j]? = some x → (x.b.h : Int) ≠ k)) (fun x => (n - intOf x).toNat)
  case atStart => exact ⟨0, by omega, rfl, fun j x hj => by omega⟩
  case round =>
    obtain ⟨i, hin, rfl, hno⟩ := hrel
    by_cases hlt : i < n
    · have t1 : (i : Int) < (n : Int) := by omega
      obtain ⟨x, hx⟩ : ∃ x, R[i]? = some x := ⟨_, List.getElem?_eq_getElem (by have := HN.out; omega)⟩
      obtain ⟨_, g, off, rfl, hg, d0, d1, d2, d3⟩ := HR0.out.at hx
      obtain ⟨xh, hxh⟩ : ∃ a, a = x.b.h := ⟨_, rfl⟩
      rw [← hxh] at d0
      have HX := Lib.hid hx
      have HXH := Lib.hid hxh
      clear hx hxh d1 d2 d3
      by_cases hk : (xh : Int) = k
      · subst hk
        go_wp2
        go_ret
        exact ⟨.inl ⟨i, x, HX.out, by rw [HXH.out], rfl⟩, ho0⟩
      · have HA : Hid (∀ (j : Nat) (x : RB), j < i + 1 → R[j]? = some x → (x.b.h : Int) ≠ k) := fun j y hj hy => by
          rcases Nat.lt_or_ge j i with h | h
          · exact hno.out j y h hy
          · obtain rfl : j = i := by omega
            rw [HX.out] at hy; cases hy
            rw [← HXH.out]; exact hk
        go_wp2_with fail
        go_round
        case rel => exact ⟨i + 1, by omega, by go_num, HA⟩
        case measure => simp [intOf]; omega
    · obtain rfl : i = n := by omega
      have t1 : ¬ (i : Int) < (i : Int) := by omega
      go_wp2
      go_ret
      refine ⟨.inr ⟨fun x hx => ?_, rfl⟩, ho0⟩
      obtain ⟨j, hj⟩ := List.mem_iff_getElem?.1 hx
      exact hno.out j x (by have := (List.getElem?_eq_some_iff.1 hj).1; have := HN.out; omega) hj
set_option maxHeartbeats 4000000 in
set_option maxRecDepth 100000 in
theorem free_ref (B : List Nat) (s : St) (fr words : Nat) (base : Option Addr) (n cap : Nat) (R : List RB) (w : World) (hR : RdR B (.slice base n cap) R w) (hn : n = R.length) (h1 : n ≤ 1000) (hb : ∀ x, x ∈ R → x.b.f ≤ 16777216 ∧ x.b.n ≤ 16777216) (h2 : fr ≤ 16777216) (h3 : words ≤ 16777216) :
    Calls Try.prog 46 #[sval s (.slice base n cap), .int .i64 fr, .int .i64 words] w fun e w' => FreeRes (blks R) s.cap fr words e ∧ Oth [] w w' := by
  have HR := Lib.hid hR
  have HN := Lib.hid hn
  have HB := Lib.hid hb
  unfold sval
  clear hR hn hb
  go_enter Try.func46, Try.ntmps46
  go_wp2_with fail
  obtain ⟨W0, hW0⟩ : ∃ W0, W0 = w.alloc (.cells #[.int .i64 s.cap, .int .i64 s.next, .int .i64 s.high, .int .i64 s.peak, .int .i64 s.moves, .slice base n cap] 55) := ⟨_, rfl⟩
  have ho0 : Oth [] w W0 := by rw [hW0]; exact (Oth.refl _ _).alloc _
  have hs0 : W0.heap[w.heap.size]? = some (.cells #[.int .i64 s.cap, .int .i64 s.next, .int .i64 s.high, .int .i64 s.peak, .int .i64 s.moves, .slice base n cap] 55 (0, 0)) := by rw [hW0]; exact heap_alloc_new _ _
  obtain ⟨sb, hsb⟩ : ∃ sb, sb = w.heap.size := ⟨_, rfl⟩
  rw [← hW0, ← hsb]
  rw [← hsb] at hs0
  have c5 : W0.cell? ⟨sb, 5, none⟩ = some (.slice base n cap) := by simp [World.cell?, hs0]
  have c0 : W0.cell? ⟨sb, 0, none⟩ = some (.int .i64 s.cap) := by simp [World.cell?, hs0]
  have HR0 := Lib.hid (HR.out.quiet ho0)
  clear hW0 hsb hs0 HR
  have t0 : IntKind.i64.wrap ((fr : Int) + (words : Int)) = (fr : Int) + (words : Int) := by rw [IntKind.wrap_i64]; omega
  have hmix : Try.prog.follows .mixedOrders = true := by kernel_rfl
  go_loopw [7] (fun x wr => ∃ i : Nat, i ≤ n ∧ x = .int .i64 i ∧ Oth [] W0 wr ∧ Hid (NoOv R i fr words)) (fun x _ => (n - intOf x).toNat)
  case atStart => exact ⟨0, by omega, rfl, Oth.refl _ _, fun j x hj => by omega⟩
  case round =>
    obtain ⟨i, hin, rfl, ho, hno⟩ := hrel
    have e5 := ho.cell c5 (by simp)
    have e0 := ho.cell c0 (by simp)
    by_cases hlt : i < n
    · have t1 : (i : Int) < (n : Int) := by omega
      have t2 : ¬ (i : Int) < 0 := by omega
      obtain ⟨x, hx⟩ : ∃ x, R[i]? = some x := ⟨_, List.getElem?_eq_getElem (by have := HN.out; omega)⟩
      obtain ⟨_, g, off, rfl, hg, d0, d1, d2, d3⟩ := (HR0.out.quiet ho).at hx
      have hbx := HB.out x (List.mem_of_getElem? hx)
      obtain ⟨xf, hxf⟩ : ∃ a, a = x.b.f := ⟨_, rfl⟩
      obtain ⟨xn, hxn⟩ : ∃ a, a = x.b.n := ⟨_, rfl⟩
      rw [← hxf, ← hxn] at hbx
      rw [← hxf] at d1
      rw [← hxn] at d2
      have t3 : IntKind.i64.wrap ((xf : Int) + (xn : Int)) = (xf : Int) + (xn : Int) := by rw [IntKind.wrap_i64]; omega
      have HX := Lib.hid hx
      have HXF := Lib.hid hxf
      have HXN := Lib.hid hxn
      clear hx hxf hxn d0 d3
      have key : (xf < fr + words ∧ fr < xf + xn) ∨ (xf < fr + words ∧ ¬ fr < xf + xn) ∨ ¬ xf < fr + words := by omega
      rcases key with ⟨k1, k2⟩ | ⟨k1, k2⟩ | k1
      · have k3 : (xf : Int) < (fr : Int) + (words : Int) := by omega
        have k4 : (fr : Int) < (xf : Int) + (xn : Int) := by omega
        go_wp2_with fail
        go_quiet (fail)
        go_wp2
        go_ret
        refine ⟨⟨false, rfl, ⟨(fun h => by cases h), fun h => ?_⟩⟩, (ho0.trans ho (Fr.nil _ _)).drewN _⟩
        exact absurd ⟨by rw [← HXF.out]; omega, by rw [← HXF.out, ← HXN.out]; omega⟩ (h.1 x.b (List.mem_of_getElem? (blks_get HX.out)))
      all_goals
        have HA : Hid (NoOv R (i + 1) fr words) := fun j y hj hy => by
          rcases Nat.lt_or_ge j i with h | h
          · exact hno.out j y h hy
          · obtain rfl : j = i := by omega
            rw [HX.out] at hy; cases hy
            rw [← HXF.out, ← HXN.out]; omega
      · have k3 : (xf : Int) < (fr : Int) + (words : Int) := by omega
        go_wp2_with fail
        have k4 : ¬ (fr : Int) < (xf : Int) + (xn : Int) := by omega
        have k5 : ¬ fr < xf + xn := by omega
        have k6 : xf < fr + words := by omega
        go_quiet (fail)
        go_wp2_with fail
        go_roundw
        case rel => exact ⟨i + 1, by omega, by go_num, ho.drewN _, HA⟩
        case measure => simp [intOf]; omega
      · go_wp2_with fail
        have k3 : ¬ (xf : Int) < (fr : Int) + (words : Int) := by omega
        have k4 : ¬ xf < fr + words := by omega
        go_quiet (fail)
        go_wp2_with fail
        go_roundw
        case rel => exact ⟨i + 1, by omega, by go_num, ho.drewN _, HA⟩
        case measure => simp [intOf]; omega
    · obtain rfl : i = n := by omega
      have t1 : ¬ (i : Int) < (i : Int) := by omega
      obtain ⟨sc, hsc⟩ : ∃ a, a = s.cap := ⟨_, rfl⟩
      have HD : Hid (decide ((fr : Int) + (words : Int) ≤ (sc : Int)) = true ↔ FreeAt (blks R) sc fr words) := by
        show _ ↔ _
        rw [decide_eq_true_iff]
        constructor
        · intro h
          refine ⟨fun y hy => ?_, by omega⟩
          obtain ⟨z, hz, rfl⟩ := List.mem_map.1 hy
          obtain ⟨j, hj⟩ := List.mem_iff_getElem?.1 hz
          exact hno.out j z (by have := (List.getElem?_eq_some_iff.1 hj).1; have := HN.out; omega) hj
        · rintro ⟨_, h⟩; omega
      rw [hsc] at HD
      clear hsc
      go_wp2
      go_ret
      exact ⟨⟨_, rfl, HD.out⟩, ho0.trans ho (Fr.nil _ _)⟩
end Go.Proofs.Ythllilkafdgheaa
