/- A slice of calls as it reads; the walk of small. Condition: the argument reads as a list of calls. -/
import Derived.Test.YtbjfojdhdjehpaaTp
import Derived.Deep.Slices
import Derived.ChangeArms
namespace Go.Proofs.Ytbjfojdhdjehpaa
open Go.RowKit
set_option linter.unusedVariables false
set_option linter.unusedSimpArgs false

/-- One call: its kind, its key, its value. -/
abbrev OpV : Type := Int × Int × ByteArray

/-- The argument: a slice that reads as these calls. -/
def ReadsO (base : Option Addr) (n : Nat) (l : List OpV) (w : World) : Prop := n = l.length ∧ n ≤ maxLen ∧ ∀ i a k s, l[i]? = some (a, k, s) → ∃ g off, base = some ⟨g, off, none⟩ ∧ w.cell? ⟨g, off + i * 3, none⟩ = some (.int .i64 a) ∧ w.cell? ⟨g, off + i * 3 + 1, none⟩ = some (.int .i64 k) ∧ w.cell? ⟨g, off + i * 3 + 2, none⟩ = some (.string s)

theorem ReadsO.oth {base : Option Addr} {n : Nat} {l : List OpV} {w w' : World} (h : ReadsO base n l w) (ho : Oth [] w w') : ReadsO base n l w' := by
  obtain ⟨h1, h2, h3⟩ := h
  refine ⟨h1, h2, fun i a k s hi => ?_⟩
  obtain ⟨g, off, hb, c1, c2, c3⟩ := h3 i a k s hi
  exact ⟨g, off, hb, ho.cell c1 (by simp), ho.cell c2 (by simp), ho.cell c3 (by simp)⟩

/-- What small returns. -/
def SmallRes (n : Nat) (e : Ending) : Prop := ∃ b, e = .returned (.bool b) ∧ (b = true → n ≤ 100)

set_option maxHeartbeats 4000000 in
set_option maxRecDepth 100000 in
theorem small_any (base : Option Addr) (n cap : Nat) (l : List OpV) (w : World) (hR : ReadsO base n l w) :
    Calls Try.prog 11 #[.slice base n cap] w fun e w' => SmallRes n e ∧ Oth [] w w' := by
  have HR := Lib.hid hR
  obtain ⟨hn, hmx, _⟩ := hR
  have hn63 : n ≤ 9223372036854775807 := by unfold maxLen at hmx; omega
  clear hn hmx
  go_enter Try.func11, Try.ntmps11
  go_wp2_with fail
  go_loopw [7] (fun x wr => ∃ i : Nat, i ≤ n ∧ x = .int .i64 i ∧ Oth [] w wr) (fun x _ => (n - intOf x).toNat)
  case atStart => exact ⟨0, by omega, rfl, Oth.refl _ _⟩
  case round =>
    obtain ⟨i, hi, rfl, ho⟩ := hrel
    by_cases hlt : i < n
    · have t1 : (i : Int) < (n : Int) := by omega
      have hR := HR.out.oth ho
      obtain ⟨hn, hmx, hc⟩ := hR
      obtain ⟨⟨a, k, s⟩, hav⟩ : ∃ p, l[i]? = some p := ⟨_, List.getElem?_eq_getElem (by omega)⟩
      obtain ⟨g, off, rfl, c1, c2, c3⟩ := hc i a k s hav
      have hgl : g < wr.heap.size := World.block_lt_of_cell? wr _ c1
      clear hn hmx hc hav
      by_cases hs : s.size ≤ 50
      · have t2 : ¬ (50 : Int) < (s.size : Int) := by omega
        go_wp2_with fail
        go_roundw
        case rel => exact ⟨i + 1, by omega, by go_num, ho.alloc _⟩
        case measure => simp [intOf]; omega
      · have t2 : (50 : Int) < (s.size : Int) := by omega
        go_wp2
        go_ret
        exact ⟨⟨false, rfl, by simp⟩, ho.alloc _⟩
    · obtain rfl : i = n := by omega
      have t1 : ¬ (i : Int) < (i : Int) := by omega
      go_wp2
      go_ret
      exact ⟨⟨_, rfl, fun h => by have := of_decide_eq_true h; omega⟩, ho⟩

theorem Try.cells38 : Try.prog.cellsOf 38 = 3 := by kernel_rfl
theorem Try.cells3' : Try.prog.cellsOf 3 = 1 := by kernel_rfl
theorem Try.cells9 : Try.prog.cellsOf 9 = 1 := by kernel_rfl

set_option maxRecDepth 100000 in
open Go.ChangeShapes Go.WideShapes in
theorem reads_ops {H : Type} {enc : TypeId × Value → H} {W : World} {a0 : Option Addr} {len cap : Nat} {d : DataW H} {p : List MemPlace}
    (h : DataW.Trod enc Try.prog W 0 (fun _ => true) true 30 (.slice a0 len cap) d p) : ∃ L, ReadsO a0 len L W := by
  obtain ⟨fuel, hf⟩ := h
  rcases Deep.open_slice Try.underlying30 hf with ⟨hcs, _⟩ | ⟨a, len', cap', m, n, D, Pl, hcs, hb, hl, hm, hmm, _, hx⟩
  · simp [Value.cells] at hcs
    obtain ⟨rfl, rfl, rfl⟩ := hcs
    exact ⟨[], rfl, Nat.zero_le _, fun i a k s hk => by simp at hk⟩
  · simp [Value.cells] at hcs
    obtain ⟨rfl, rfl, rfl⟩ := hcs
    simp only [if_true] at hmm
    have each : ∀ i, i < len → ∃ q : OpV, W.cell? (a.add (i * 3)) = some (.int .i64 q.1) ∧ W.cell? (a.add (i * 3 + 1)) = some (.int .i64 q.2.1) ∧ W.cell? (a.add (i * 3 + 2)) = some (.string q.2.2) := by
      intro i hi
      obtain ⟨cs', h1, h2⟩ := hx i (by omega)
      rw [Try.cells38] at h1
      obtain ⟨_, hlen, hcell⟩ := World.cells?_some h1
      obtain ⟨xs, k, hk, hxy, _, hxl, hf⟩ := DataW.trod_struct Try.underlying38 h2
      match xs, hxl, cs', hlen with
      | [y0, y1, y2], _, [v0, v1, v2], _ =>
        have g0 := hf 0 _ rfl
        have g1 := hf 1 _ rfl
        have g2 := hf 2 _ rfl
        simp [Try.cells3', Try.cells9] at g0 g1 g2
        obtain ⟨n0, r0, _⟩ := DataW.trod_int Try.underlying3 g0
        obtain ⟨n1, r1, _⟩ := DataW.trod_int Try.underlying3 g1
        obtain ⟨n2, r2, _⟩ := DataW.trod_string Try.underlying9 g2
        simp at r0 r1 r2
        subst r0; subst r1; subst r2
        have e0 := hcell 0 (by omega)
        have e1 := hcell 1 (by omega)
        have e2 := hcell 2 (by omega)
        rw [Deep.add_add] at e0 e1 e2
        exact ⟨(n0, n1, n2), by simpa using e0, by simpa using e1, by simpa using e2⟩
    obtain ⟨q, hq⟩ := Deep.choose_lt each
    refine ⟨(List.range len).map q, by simp, Nat.le_trans hl hm, fun i a' k s hi => ?_⟩
    have hil : i < len := by have := (List.getElem?_eq_some_iff.1 hi).1; simpa using this
    rw [List.getElem?_map, List.getElem?_range hil] at hi
    simp at hi
    have hqi := hq i hil
    rw [hi] at hqi
    obtain ⟨e0, e1, e2⟩ := hqi
    obtain ⟨g, off, spot⟩ := a
    have hsp : spot = none := by
      cases spot with
      | none => rfl
      | some x =>
        have c0 := (hq 0 (by omega)).1
        simp only [Nat.zero_mul, Addr.add, if_true, World.cell?] at c0
        split at c0 <;> simp at c0
    subst hsp
    rw [Addr.add_lit] at e0 e1 e2
    exact ⟨g, off, rfl, e0, by rw [← Nat.add_assoc] at e1; exact e1, by rw [← Nat.add_assoc] at e2; exact e2⟩
end Go.Proofs.Ytbjfojdhdjehpaa
