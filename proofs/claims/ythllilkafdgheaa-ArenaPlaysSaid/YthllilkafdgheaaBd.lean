/- A slice of calls as it reads; the walk of small. Condition: the argument reads as a list of calls. -/
import Derived.Test.YthllilkafdgheaaBb
import Derived.Test.YthllilkafdgheaaAya
import Derived.Deep.Slices
import Derived.ChangeArms
namespace Go.Proofs.Ythllilkafdgheaa
open Go.RowKit Go.ChangeShapes Go.WideShapes Go.ChangeAt
set_option linter.unusedVariables false
set_option linter.unusedSimpArgs false

/-- One call: its kind, its number, its cells where they lie and as they read. -/
structure OpV where
  k : Int
  n : Int
  b : Option Addr
  m : Nat
  c : Nat
  ds : List Int

instance : Inhabited OpV := ⟨⟨0, 0, none, 0, 0, []⟩⟩

/-- The argument: a slice that reads as these calls. -/
def ReadsO (base : Option Addr) (n : Nat) (l : List OpV) (w : World) : Prop := n = l.length ∧ n ≤ maxLen ∧ ∀ (i : Nat) (o : OpV), l[i]? = some o →
  (∃ g off, base = some ⟨g, off, none⟩ ∧ w.cell? ⟨g, off + i * 3, none⟩ = some (.int .i64 o.k) ∧ w.cell? ⟨g, off + i * 3 + 1, none⟩ = some (.int .i64 o.n) ∧ w.cell? ⟨g, off + i * 3 + 2, none⟩ = some (.slice o.b o.m o.c)) ∧
  (Lit.int .i64 o.n).wf = true ∧ ReadsI o.b o.m o.ds w

theorem ReadsO.oth {base : Option Addr} {n : Nat} {l : List OpV} {w w' : World} (h : ReadsO base n l w) (ho : Oth [] w w') : ReadsO base n l w' := by
  obtain ⟨h1, h2, h3⟩ := h
  refine ⟨h1, h2, fun i o hi => ?_⟩
  obtain ⟨⟨g, off, hb, c1, c2, c3⟩, h4, h5⟩ := h3 i o hi
  exact ⟨⟨g, off, hb, ho.cell c1 (by simp), ho.cell c2 (by simp), ho.cell c3 (by simp)⟩, h4, h5.oth ho⟩

theorem Try.cells31 : Try.prog.cellsOf 31 = 3 := by kernel_rfl
theorem Try.cells23 : Try.prog.cellsOf 23 = 1 := by kernel_rfl

theorem reads_cells {H : Type} {enc : TypeId × Value → H} {W : World} {t e : TypeId} {cs : List Value} {fuel : Nat} {x : DataW H × List MemPlace}
    (hu : Try.prog.underlying t = some (.slice e)) (he : Try.prog.underlying e = some (.int .i64)) (hc : Try.prog.cellsOf e = 1)
    (hf : DataW.trod enc Try.prog W 0 (fun _ => true) true fuel t cs = some x) : ∃ b m c L, cs = [.slice b m c] ∧ ReadsI b m L W := by
  rcases open_ints hu he hc hf with ⟨hcs, _⟩ | ⟨a, len, cap', zs, hcs, _, hl, hm, hz, _, hcell, hwz⟩
  · exact ⟨none, 0, 0, [], hcs, rfl, Nat.zero_le _, (fun k hk => absurd hk (by simp)), (fun i k hk => absurd hk (by simp))⟩
  · simp only [if_true] at hz
    have hlen : (zs.take len).length = len := by rw [List.length_take, hz]; omega
    refine ⟨some a, len, cap', zs.take len, hcs, hlen.symm, by omega, fun k hk => ?_, fun i x hi => ?_⟩
    · exact hwz k (List.mem_of_mem_take hk)
    have hil : i < len := by
      have := (List.getElem?_eq_some_iff.1 hi).1
      omega
    obtain ⟨g, off, spot⟩ := a
    have c0 := hcell 0 (by omega)
    have hsp : spot = none := by
      cases spot with
      | none => rfl
      | some x =>
        simp only [Addr.add, if_true, World.cell?] at c0
        split at c0 <;> simp at c0
    subst hsp
    refine ⟨g, off, rfl, ?_⟩
    have := hcell i (by omega)
    rw [Addr.add_lit] at this
    rw [this]
    rw [List.getElem?_take, if_pos hil] at hi
    rw [List.getD_eq_getElem?_getD, hi]; rfl

set_option maxRecDepth 100000 in
theorem reads_ops {H : Type} {enc : TypeId × Value → H} {W : World} {a0 : Option Addr} {len cap : Nat} {d : DataW H} {p : List MemPlace}
    (h : DataW.Trod enc Try.prog W 0 (fun _ => true) true 22 (.slice a0 len cap) d p) : ∃ L, ReadsO a0 len L W := by
  obtain ⟨fuel, hf⟩ := h
  rcases Deep.open_slice Try.underlying22 hf with ⟨hcs, _⟩ | ⟨a, len', cap', m, n, D, Pl, hcs, hb, hl, hm, hmm, _, hx⟩
  · simp [Value.cells] at hcs
    obtain ⟨rfl, rfl, rfl⟩ := hcs
    exact ⟨[], rfl, Nat.zero_le _, fun i o hk => absurd hk (by simp)⟩
  · simp [Value.cells] at hcs
    obtain ⟨rfl, rfl, rfl⟩ := hcs
    simp only [if_true] at hmm
    have each : ∀ i, i < len → ∃ q : OpV, (W.cell? (a.add (i * 3)) = some (.int .i64 q.k) ∧ W.cell? (a.add (i * 3 + 1)) = some (.int .i64 q.n) ∧ W.cell? (a.add (i * 3 + 2)) = some (.slice q.b q.m q.c)) ∧ (Lit.int .i64 q.n).wf = true ∧ ReadsI q.b q.m q.ds W := by
      intro i hi
      obtain ⟨cs', h1, h2⟩ := hx i (by omega)
      rw [Try.cells31] at h1
      obtain ⟨_, hlen, hcell⟩ := World.cells?_some h1
      obtain ⟨xs, k, hk, hxy, _, hxl, hf⟩ := DataW.trod_struct Try.underlying31 h2
      match xs, hxl, cs', hlen with
      | [y0, y1, y2], _, [v0, v1, v2], _ =>
        have g0 := hf 0 _ rfl
        have g1 := hf 1 _ rfl
        have g2 := hf 2 _ rfl
        simp [Try.cells3, Try.cells23] at g0 g1 g2
        obtain ⟨n0, r0, _⟩ := DataW.trod_int Try.underlying3 g0
        obtain ⟨n1, r1, _, wf1⟩ := DataW.trod_int Try.underlying3 g1
        obtain ⟨b2, m2, c2, L2, r2, hrd⟩ := reads_cells Try.underlying23 Try.underlying59 Try.cells59 g2
        simp at r0 r1 r2
        subst r0; subst r1; subst r2
        have e0 := hcell 0 (by omega)
        have e1 := hcell 1 (by omega)
        have e2 := hcell 2 (by omega)
        rw [Deep.add_add] at e0 e1 e2
        exact ⟨⟨n0, n1, b2, m2, c2, L2⟩, ⟨by simpa using e0, by simpa using e1, by simpa using e2⟩, by simpa using wf1, hrd⟩
    obtain ⟨q, hq⟩ := Deep.choose_lt each
    refine ⟨(List.range len).map q, by simp, Nat.le_trans hl hm, fun i o hi => ?_⟩
    have hil : i < len := by have := (List.getElem?_eq_some_iff.1 hi).1; simpa using this
    rw [List.getElem?_map, List.getElem?_range hil] at hi
    simp at hi
    have hqi := hq i hil
    rw [hi] at hqi
    obtain ⟨⟨e0, e1, e2⟩, h4, h5⟩ := hqi
    obtain ⟨g, off, spot⟩ := a
    have hsp : spot = none := by
      cases spot with
      | none => rfl
      | some x =>
        have c0 := (hq 0 (by omega)).1.1
        simp only [Nat.zero_mul, Addr.add, if_true, World.cell?] at c0
        split at c0 <;> simp at c0
    subst hsp
    rw [Addr.add_lit] at e0 e1 e2
    exact ⟨⟨g, off, rfl, e0, by rw [← Nat.add_assoc] at e1; exact e1, by rw [← Nat.add_assoc] at e2; exact e2⟩, h4, h5⟩

/-- What small returns. -/
def SmallRes (cap : Int) (l : List OpV) (e : Ending) : Prop := ∃ b, e = .returned (.bool b) ∧ (b = true → 0 ≤ cap ∧ cap ≤ 300 ∧ l.length ≤ 100 ∧ ∀ (i : Nat) (o : OpV), l[i]? = some o → o.m ≤ 300)

set_option maxHeartbeats 4000000 in
set_option maxRecDepth 100000 in
theorem small_any (cap : Int) (base : Option Addr) (n c : Nat) (l : List OpV) (w : World) (hR : ReadsO base n l w) :
    Calls Try.prog 8 #[.int .i64 cap, .slice base n c] w fun e w' => SmallRes cap l e ∧ Oth [] w w' := by
  have HR := Lib.hid hR
  obtain ⟨hn, hmx, hz⟩ := hR
  have hn63 : n ≤ 9223372036854775807 := by unfold maxLen at hmx; omega
  have HN := Lib.hid hn
  clear hn hmx hz
  go_enter Try.func8, Try.ntmps8
  go_wp2_with fail
  go_loopw [5, 10] (fun v x wr => ∃ i a : Nat, i ≤ n ∧ x = .int .i64 i ∧ v = .int .i64 a ∧ 2 * i ≤ a ∧ a ≤ 200 ∧ Oth [] w wr ∧ Hid (∀ (j : Nat) (o : OpV), j < i → l[j]? = some o → o.m ≤ 300)) (fun _ x _ => (n - intOf x).toNat)
  case atStart => exact ⟨0, 0, by omega, rfl, rfl, by omega, by omega, Oth.refl _ _, fun j o hj => by omega⟩
  case round =>
    obtain ⟨i, a, hi, rfl, rfl, ha1, ha2, ho, hall⟩ := hrel
    by_cases hlt : i < n
    · have t1 : (i : Int) < (n : Int) := by omega
      have hR := HR.out.oth ho
      obtain ⟨hn, hmx, hc⟩ := hR
      obtain ⟨⟨ok, on, ob, om, oc, ods⟩, hav⟩ : ∃ p, l[i]? = some p := ⟨_, List.getElem?_eq_getElem (by omega)⟩
      obtain ⟨⟨g, off, rfl, c1, c2, c3⟩, hwf, hrd⟩ := hc i _ hav
      simp only at c1 c2 c3
      have hgl : g < wr.heap.size := World.block_lt_of_cell? wr _ c1
      have hom : om ≤ 9223372036854775807 := by have := hrd.2.1; unfold maxLen at this; simp only at this; omega
      have HAV := Lib.hid hav
      clear hn hmx hc hav hwf hrd
      have q1 : Int.tdiv (om : Int) 10 = ((om / 10 : Nat) : Int) := by rw [Int.tdiv_eq_ediv_of_nonneg (by omega)]; omega
      obtain ⟨q, hq⟩ : ∃ q, q = om / 10 := ⟨_, rfl⟩
      rw [← hq] at q1
      have hqb : q ≤ 922337203685477580 := by omega
      have q2 : IntKind.i64.wrap (2 + (q : Int)) = 2 + (q : Int) := by rw [IntKind.wrap_i64]; omega
      have q3 : IntKind.i64.wrap ((a : Int) + (2 + (q : Int))) = (a : Int) + (2 + (q : Int)) := by rw [IntKind.wrap_i64]; omega
      by_cases hs : a + (2 + q) ≤ 200
      · have t2 : ¬ (200 : Int) < (a : Int) + (2 + (q : Int)) := by omega
        by_cases hm : om ≤ 300
        · have t3 : ¬ (300 : Int) < (om : Int) := by omega
          have HA : Hid (∀ (j : Nat) (o : OpV), j < i + 1 → l[j]? = some o → o.m ≤ 300) := fun j o hj hjo => by
            rcases Nat.lt_or_ge j i with h | h
            · exact hall.out j o h hjo
            · obtain rfl : j = i := by omega
              rw [HAV.out] at hjo; cases hjo; exact hm
          go_wp2_with fail
          go_roundw
          case rel => exact ⟨i + 1, a + (2 + q), by omega, by go_num, by rw [hq]; congr 1, by omega, by omega, ho.alloc _, HA⟩
          case measure => simp [intOf]; omega
        · have t3 : (300 : Int) < (om : Int) := by omega
          go_wp2
          go_ret
          exact ⟨⟨false, rfl, by simp⟩, ho.alloc _⟩
      · have t2 : (200 : Int) < (a : Int) + (2 + (q : Int)) := by omega
        go_wp2
        go_ret
        exact ⟨⟨false, rfl, by simp⟩, ho.alloc _⟩
    · obtain rfl : i = n := by omega
      have t1 : ¬ (i : Int) < (i : Int) := by omega
      by_cases h0 : cap < 0
      · have h00 : ¬ 0 ≤ cap := by omega
        go_wp2
        go_ret
        exact ⟨⟨_, rfl, fun h => by simp at h⟩, ho⟩
      · have h00 : 0 ≤ cap := by omega
        go_wp2
        go_ret
        refine ⟨⟨_, rfl, fun h => ?_⟩, ho⟩
        have h1 := HN.out
        have h2 := of_decide_eq_true h
        refine ⟨by omega, by omega, by omega, fun j o hj => hall.out j o ?_ hj⟩
        have := (List.getElem?_eq_some_iff.1 hj).1; omega
end Go.Proofs.Ythllilkafdgheaa
