/- The walk of order.Invert in the twin. -/
import Derived.Test.YtminoelijdpmeaaOd
import Derived.Test.YtminoelijdpmeaaPa
namespace Go.Proofs.Ytminoelijdpmeaa
open Go.RowKit
set_option linter.unusedVariables false

/-- A row of bools in memory. -/
def BoolAt (g : Nat) (S : List Bool) (w : World) : Prop := w.heap[g]? = some (.cells (S.map Value.bool).toArray 4 (0, 0))
section
variable {g : Nat} {S : List Bool} {w : World}
theorem BoolAt.lt (h : BoolAt g S w) : g < w.heap.size := lt_of_block h
theorem BoolAt.cell (h : BoolAt g S w) {j : Nat} {x : Bool} (hj : S[j]? = some x) : w.cell? ⟨g, j, none⟩ = some (.bool x) := by
  unfold BoolAt at h; simp [World.cell?, h, hj]
theorem BoolAt.free (h : BoolAt g S w) (j : Nat) : w.frozen? ⟨g, j, none⟩ = false := by unfold BoolAt at h; simp [World.frozen?, h]
theorem BoolAt.set (h : BoolAt g S w) (j : Nat) (x : Bool) : BoolAt g (S.set j x) (w.setCell ⟨g, j, none⟩ (.bool x)) := by
  unfold BoolAt; rw [row_setCell h]; simp
theorem BoolAt.other (h : BoolAt g S w) {a : Addr} (ha : g ≠ a.block) (v : Value) : BoolAt g S (w.setCell a v) := by
  unfold BoolAt; rw [Below.heap_setCell _ _ _ _ ha]; exact h
end
theorem make_bools (n : Nat) (h2 : n ≤ 100000) (w : World) :
    (Instr.makeSlice 43 (.int .i64 n) (.int .i64 n)).run Tw w = .ok (.slice (some ⟨w.heap.size, 0, none⟩) n n) (w.alloc (.cells ((List.replicate n false).map Value.bool).toArray 4)) := by
  have info4 : (Tw.info? 4).map (fun i => (i.zero, i.size, i.bytes)) = some (some (.bool false), 1, 1) := by kernel_rfl
  obtain ⟨i0, hi, hz0, hz1, hz2⟩ := info_parts info4
  have h := run_make (P := Tw) w 43 4 i0 (.bool false) (show Tw.underlying 43 = some (.slice 4) from Try.underlying43) hi hz0 .i64 .i64 n n (by omega) (by omega) (by rw [hz2]; omega) (by omega)
  rw [h, hz1]
  simp only [Int.toNat_natCast]
  congr 3
  apply Array.toList_inj.1
  simp [Value.cells, toList_madeCells_one]

/-- What Invert answers. -/
def InvPost (L : List Int) (w : World) (e : Ending) (w' : World) : Prop :=
  ((wholeTo L L.length ∧ e = .returned (.tuple #[.slice (some ⟨w.heap.size, 0, none⟩) L.length L.length, .int .i64 0]) ∧ RowAt w.heap.size (invL L) w' ∧ w.heap.size < w'.heap.size) ∨
    (¬ wholeTo L L.length ∧ e = .returned (.tuple #[.slice none 0 0, .int .i64 11]))) ∧ Below w.heap.size w w'

set_option maxHeartbeats 1600000 in
theorem invert_any (v : Value) (L : List Int) (w : World) (hn : L.length ≤ 100000) (hL : Reads .i64 v L w) : Calls Tw 14 #[v] w (InvPost L w) := by
  obtain ⟨b, c, rfl, hb⟩ := hL.parts
  have hm1 := make_ints L.length hn
  have hm2 := make_bools L.length hn
  obtain ⟨n, hN⟩ : ∃ n, n = L.length := ⟨_, rfl⟩
  rw [← hN] at hn hb hm1 hm2 ⊢
  have HN := Lib.hid hN
  have HB := Lib.hid hb
  clear hN hb hL
  go_enter Tw.func14, Try.ntmps14
  go_wp2
  go_loopw [16] (fun x wr => ∃ k : Nat, k ≤ n ∧ x = .int .i64 k ∧ Hid (Fine n (L.take k)) ∧ RowAt w.heap.size (invSt n L k) wr ∧ BoolAt (w.heap.size + 1) (seenSt n L k) wr ∧ Below w.heap.size w wr) (fun x _ => n - (intOf x).toNat)
  case atStart =>
    refine ⟨0, by omega, rfl, ⟨by simp, by simp⟩, ?_, ?_, ((Below.refl _ _).alloc (Nat.le_refl _) _).alloc (by simp) _⟩
    · unfold RowAt
      rw [Below.heap_alloc _ _ _ (by simp), heap_alloc_new]; rfl
    · have := heap_alloc_new (w.alloc (.cells (intCells (List.replicate n 0)) 3)) (.cells ((List.replicate n false).map Value.bool).toArray 4)
      simpa [BoolAt, seenSt] using this
  case round =>
    obtain ⟨k, hk, rfl, hF, hR, hS, hB⟩ := hrel
    by_cases hlt : k < n
    · have t1 : (k : Int) < (n : Int) := by omega
      obtain ⟨g, off, rfl, hg, hc⟩ := HB.out (by omega)
      have hkl : k < L.length := by have := HN.out; omega
      obtain ⟨x, hx⟩ : ∃ x, L[k]? = some x := ⟨_, List.getElem?_eq_getElem hkl⟩
      have q0 : wr.cell? ⟨g, off + k, none⟩ = some (.int .i64 x) := by rw [hB.cell hg]; exact hc k x hx
      have HX := Lib.hid hx
      have hmem : x ∈ L := List.mem_of_getElem? hx
      clear hc hx
      have HM := Lib.hid hmem
      clear hmem
      by_cases h1 : x < 0
      · go_wp2
        go_ret2
        refine ⟨.inr ⟨fun h => ?_, rfl⟩, hB⟩
        have := (fine_of_whole h).1 x HM.out
        omega
      · by_cases h2 : (n : Int) ≤ x
        · go_wp2
          go_ret2
          refine ⟨.inr ⟨fun h => ?_, rfl⟩, hB⟩
          have := (fine_of_whole h).1 x HM.out
          have := HN.out
          omega
        · obtain ⟨t, rfl⟩ : ∃ t : Nat, x = (t : Int) := ⟨x.toNat, by omega⟩
          have ht : t < n := by omega
          have ht2 : (t : Int) < (n : Int) := by omega
          have hsg := seenSt_get (n := n) (L := L) (k := k) (t := t) (by omega) ht (fun y hy => (hF.out.1 y hy).1)
          have q1 := hS.cell hsg
          clear hsg
          by_cases h3 : (t : Int) ∈ L.take k
          · rw [decide_eq_true h3] at q1
            have H3 := Lib.hid h3
            clear h3
            go_wp2
            go_ret2
            refine ⟨.inr ⟨fun h => ?_, rfl⟩, hB⟩
            have hnd := (fine_of_whole h).2
            obtain ⟨i, hi, e⟩ := List.mem_iff_getElem.1 H3.out
            have hik : i < k := by simp at hi; omega
            rw [List.getElem_take] at e
            have e2 := (List.getElem?_eq_some_iff.1 HX.out).2
            have := (List.getElem_inj (h₀ := by omega) (h₁ := hkl) hnd).1 (e.trans e2.symm)
            omega
          · rw [decide_eq_false h3] at q1
            have H3 := Lib.hid h3
            clear h3
            have q2 := hS.free t
            have q3 := hR.cell (show (invSt n L k)[t]? = some ((invSt n L k)[t]'(by rw [invSt_length]; exact ht)) from List.getElem?_eq_getElem _)
            have q4 := hR.free t
            have HR := Lib.hid hR
            have HS := Lib.hid hS
            have HBl := Lib.hid hB
            clear hR hS hB
            go_wp2
            go_roundw
            case rel =>
              have e1 : L.getD k 0 = (t : Int) := by rw [List.getD_eq_getElem?_getD, HX.out]; rfl
              refine ⟨k + 1, by omega, by go_num, ?_, ?_, ?_, (HBl.out.setCell (by simp) _).setCell (by simp) _⟩
              · have e2 : L.take (k + 1) = L.take k ++ [(t : Int)] := by
                  rw [List.take_succ_eq_append_getElem hkl]
                  congr 2
                  exact (List.getElem?_eq_some_iff.1 HX.out).2
                show Fine n (L.take (k + 1))
                rw [e2]
                refine ⟨fun y hy => ?_, ?_⟩
                · rcases List.mem_append.1 hy with hy | hy
                  · exact hF.out.1 y hy
                  · rw [List.mem_singleton.1 hy]; omega
                · rw [List.nodup_append]
                  refine ⟨hF.out.2, by simp, fun a ha b hb e => ?_⟩
                  rw [List.mem_singleton.1 hb] at e
                  exact H3.out (e ▸ ha)
              · rw [invSt, e1]
                exact (HR.out.other (by simp) _).set t k
              · rw [seenSt, e1]
                exact (HS.out.set t true).other (by simp) _
            case measure => simp [intOf]; omega
    · obtain rfl : k = n := by omega
      have t1 : ¬ (k : Int) < (k : Int) := by omega
      have HR := Lib.hid hR
      clear hR hS
      go_wp2
      go_ret2
      have e : L.take k = L := List.take_of_length_le (by have := HN.out; omega)
      have hf := hF.out
      rw [e] at hf
      have hN := HN.out
      subst hN
      exact ⟨.inl ⟨whole_of_fine hf, rfl, HR.out, HR.out.lt⟩, hB⟩
end Go.Proofs.Ytminoelijdpmeaa
