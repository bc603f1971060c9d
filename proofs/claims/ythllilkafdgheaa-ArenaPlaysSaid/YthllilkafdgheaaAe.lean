/- The arena in memory; the walks of its readers and of end. No condition. -/
import Derived.Test.YthllilkafdgheaaAd
namespace Go.Proofs.Ythllilkafdgheaa
open Go.RowKit
set_option linter.unusedVariables false
set_option linter.unusedSimpArgs false

/-- What an arena is. -/
structure St where
  cap : Nat
  L : List Blk
  packed : Nat
  next : Nat
  live : Nat
  high : Nat
  peak : Nat
  moves : Nat

/-- Its ten cells. -/
def arCells (s : St) (cv bv : Value) (mb : Nat) : Array Value :=
  #[.int .i64 s.cap, cv, bv, .map (some mb), .int .i64 s.packed, .int .i64 s.next, .int .i64 s.live, .int .i64 s.high, .int .i64 s.peak, .int .i64 s.moves]

/-- The parts of an arena in memory: cv its words, bv its blocks, mb its map, cs the words' values. -/
structure Arp (p : Nat) (s : St) (cv bv : Value) (mb : Nat) (cs : List Int) (w : World) : Prop where
  obj : w.heap[p]? = some (.cells (arCells s cv bv mb) 63 (0, 0))
  cells : w.ownsRow 0 59 1 cv s.high (cs.map (Value.int .i64))
  blocks : w.ownsRow 0 45 3 bv s.L.length (bcs s.L)
  map : MapI mb s.L w
  apart : (p :: mb :: (cv.ownBlock.toList ++ bv.ownBlock.toList)).Nodup
  data : ∀ b, b ∈ s.L → (cs.drop b.f).take b.n = b.d

/-- The blocks of memory where it lies. -/
def own4 (p : Nat) (cv bv : Value) (mb : Nat) : List Nat := p :: mb :: (cv.ownBlock.toList ++ bv.ownBlock.toList)

/-- The arena in block p is s; S: its blocks of memory. -/
def Ar (p : Nat) (S : List Nat) (s : St) (w : World) : Prop := ∃ cv bv mb cs, S = own4 p cv bv mb ∧ Arp p s cv bv mb cs w

theorem Arp.oth {p : Nat} {s : St} {cv bv : Value} {mb : Nat} {cs : List Int} {w w' : World} {T : List Nat} (h : Arp p s cv bv mb cs w) (ho : Oth T w w') (hd : ∀ k, k ∈ own4 p cv bv mb → k ∉ T) : Arp p s cv bv mb cs w' := by
  refine ⟨ho.heap h.obj (hd p (by simp [own4])), owns_oth h.cells ho (fun k hk => hd k (by simp [own4, hk])), owns_oth h.blocks ho (fun k hk => hd k (by simp [own4, hk])), h.map.oth ho (hd mb (by simp [own4])), h.apart, h.data⟩
theorem Ar.oth {p : Nat} {S T : List Nat} {s : St} {w w' : World} (h : Ar p S s w) (ho : Oth T w w') (hd : ∀ k, k ∈ S → k ∉ T) : Ar p S s w' := by
  obtain ⟨cv, bv, mb, cs, rfl, h⟩ := h
  exact ⟨cv, bv, mb, cs, rfl, h.oth ho hd⟩
theorem Arp.lt {p : Nat} {s : St} {cv bv : Value} {mb : Nat} {cs : List Int} {w : World} (h : Arp p s cv bv mb cs w) : ∀ k, k ∈ own4 p cv bv mb → k < w.heap.size := by
  intro k hk
  simp only [own4, List.mem_cons, List.mem_append, Option.mem_toList] at hk
  rcases hk with rfl | rfl | hk | hk
  · exact lt_of_block h.obj
  · exact h.map.lt
  · exact (h.cells.lt k hk).2
  · exact (h.blocks.lt k hk).2
theorem Ar.lt {p : Nat} {S : List Nat} {s : St} {w : World} (h : Ar p S s w) : ∀ k, k ∈ S → k < w.heap.size := by
  obtain ⟨cv, bv, mb, cs, rfl, h⟩ := h
  exact h.lt
theorem Arp.cell {p : Nat} {s : St} {cv bv : Value} {mb : Nat} {cs : List Int} {w : World} (h : Arp p s cv bv mb cs w) {i : Nat} {v : Value} (hv : (arCells s cv bv mb)[i]? = some v) : w.cell? ⟨p, i, none⟩ = some v := by
  simp only [World.cell?, h.obj]; exact hv
theorem Arp.free {p : Nat} {s : St} {cv bv : Value} {mb : Nat} {cs : List Int} {w : World} (h : Arp p s cv bv mb cs w) (i : Nat) : w.frozen? ⟨p, i, none⟩ = false := by
  simp [World.frozen?, h.obj]
/-- The blocks, in a row or nil. -/
theorem owns_blocks {w : World} {bv : Value} {L : List Blk} (h : w.ownsRow 0 45 3 bv L.length (bcs L)) :
    ∃ b cap, bv = .slice b L.length cap ∧ ∀ i x, L[i]? = some x → ∃ g, b = some ⟨g, 0, none⟩ ∧ w.cell? ⟨g, i * 3, none⟩ = some (.int .i64 x.h) ∧ w.cell? ⟨g, i * 3 + 1, none⟩ = some (.int .i64 x.f) ∧ w.cell? ⟨g, i * 3 + 2, none⟩ = some (.int .i64 x.n) := by
  rcases Nat.eq_zero_or_pos L.length with h0 | h0
  · have hnil : L = [] := List.eq_nil_of_length_eq_zero h0
    subst hnil
    rcases h.2 with ⟨rfl, _⟩ | ⟨g, cap, cur, rfl, _⟩
    · exact ⟨none, 0, rfl, fun i x hx => by simp at hx⟩
    · exact ⟨_, cap, rfl, fun i x hx => by simp at hx⟩
  · obtain ⟨g, cap, rfl, _, hr⟩ := row_of_owns h h0
    exact ⟨_, cap, rfl, fun i x hx => ⟨g, rfl, hr.cell (bcs_get L i x hx).1, hr.cell (bcs_get L i x hx).2.1, hr.cell (bcs_get L i x hx).2.2⟩⟩

section
variable {p : Nat} {S : List Nat} {s : St} {w : World}
theorem Live_any (h : Ar p S s w) : Calls Try.prog 13 #[.pointer (some ⟨p, 0, none⟩)] w fun e w' => e = .returned (.int .i64 s.live) ∧ w = w' := by
  obtain ⟨cv, bv, mb, cs, _, h⟩ := h
  have hc : w.cell? ⟨p, 6, none⟩ = some (.int .i64 s.live) := h.cell rfl
  clear h
  go_enter Try.func13, Try.ntmps13
  go_wp2
  go_ret
  exact ⟨rfl, rfl⟩
theorem Moves_any (h : Ar p S s w) : Calls Try.prog 19 #[.pointer (some ⟨p, 0, none⟩)] w fun e w' => e = .returned (.int .i64 s.moves) ∧ w = w' := by
  obtain ⟨cv, bv, mb, cs, _, h⟩ := h
  have hc : w.cell? ⟨p, 9, none⟩ = some (.int .i64 s.moves) := h.cell rfl
  clear h
  go_enter Try.func19, Try.ntmps19
  go_wp2
  go_ret
  exact ⟨rfl, rfl⟩
theorem Cap_any (h : Ar p S s w) : Calls Try.prog 20 #[.pointer (some ⟨p, 0, none⟩)] w fun e w' => e = .returned (.int .i64 s.cap) ∧ w = w' := by
  obtain ⟨cv, bv, mb, cs, _, h⟩ := h
  have hc : w.cell? ⟨p, 0, none⟩ = some (.int .i64 s.cap) := h.cell rfl
  clear h
  go_enter Try.func20, Try.ntmps20
  go_wp2
  go_ret
  exact ⟨rfl, rfl⟩
theorem High_any (h : Ar p S s w) : Calls Try.prog 21 #[.pointer (some ⟨p, 0, none⟩)] w fun e w' => e = .returned (.int .i64 s.high) ∧ w = w' := by
  obtain ⟨cv, bv, mb, cs, _, h⟩ := h
  have hc : w.cell? ⟨p, 7, none⟩ = some (.int .i64 s.high) := h.cell rfl
  clear h
  go_enter Try.func21, Try.ntmps21
  go_wp2
  go_ret
  exact ⟨rfl, rfl⟩
theorem Peak_any (h : Ar p S s w) : Calls Try.prog 23 #[.pointer (some ⟨p, 0, none⟩)] w fun e w' => e = .returned (.int .i64 s.peak) ∧ w = w' := by
  obtain ⟨cv, bv, mb, cs, _, h⟩ := h
  have hc : w.cell? ⟨p, 8, none⟩ = some (.int .i64 s.peak) := h.cell rfl
  clear h
  go_enter Try.func23, Try.ntmps23
  go_wp2
  go_ret
  exact ⟨rfl, rfl⟩

/-- The position directly after the first i blocks. -/
def E (L : List Blk) (i : Nat) : Nat := match i with | 0 => 0 | j + 1 => (match L[j]? with | some b => b.f + b.n | none => 0)

/-- Numbers that stay small. -/
def Sm (s : St) : Prop := s.cap ≤ 16777216 ∧ s.L.length ≤ 1000 ∧ (∀ b, b ∈ s.L → b.h ≤ 100000 ∧ b.f ≤ 16777216 ∧ b.n ≤ 16777216) ∧ s.packed ≤ s.L.length

set_option maxHeartbeats 1000000 in
theorem end_any (i : Nat) (h : Ar p S s w) (hs : Sm s) (hi : i ≤ s.L.length) : Calls Try.prog 28 #[.pointer (some ⟨p, 0, none⟩), .int .i64 ((i : Int) - 1)] w fun e w' => e = .returned (.int .i64 (E s.L i)) ∧ ∃ k, w' = w.drewN k := by
  obtain ⟨cv, bv, mb, cs, _, h⟩ := h
  cases i with
  | zero =>
    clear h
    go_enter Try.func28, Try.ntmps28
    go_wp2
    go_ret
    exact ⟨rfl, 0, rfl⟩
  | succ j =>
    have hb : w.cell? ⟨p, 2, none⟩ = some bv := h.cell rfl
    obtain ⟨b, cap, rfl, hc⟩ := owns_blocks h.blocks
    obtain ⟨x, hx⟩ : ∃ x, s.L[j]? = some x := ⟨_, List.getElem?_eq_getElem (by omega)⟩
    obtain ⟨g, rfl, c1, c2, c3⟩ := hc j x hx
    have he : E s.L (j + 1) = x.f + x.n := by simp [E, hx]
    have hxs := hs.2.2.1 x (List.mem_of_getElem? hx)
    obtain ⟨xf, hxf⟩ : ∃ a, a = x.f := ⟨_, rfl⟩
    obtain ⟨xn, hxn⟩ : ∃ a, a = x.n := ⟨_, rfl⟩
    rw [he]
    rw [← hxf, ← hxn] at hxs ⊢
    rw [← hxf] at c2
    rw [← hxn] at c3
    obtain ⟨_, b1, b2⟩ := hxs
    have t1 : ¬ ((j : Int) + 1 - 1 < 0) := by omega
    have t2 : ((j + 1 : Nat) : Int) - 1 = (j : Int) := by omega
    obtain ⟨n, hn⟩ : ∃ n, n = s.L.length := ⟨_, rfl⟩
    rw [← hn] at hb hi
    have t3 : (j : Int) < (n : Int) := by omega
    have t4 : ¬ (j : Int) < 0 := by omega
    rw [t2]
    clear h hc hx he hs hxf hxn hn
    go_enter Try.func28, Try.ntmps28
    go_wp2_with fail
    go_quiet (fail)
    go_wp2
    go_ret
    exact ⟨by simp, _, rfl⟩
end
end Go.Proofs.Ythllilkafdgheaa
