/- The walk of binom.Walk: it answers what the plain traversal answers. -/
import Derived.Test.YthbdhcbdhcgkfaaWh
namespace Go.Proofs.Ythbdhcbdhcgkfaa
open Go.RowKit

/-- All acts, one behind the other. -/
def foldW (l s : Nat) : St → List (Int × Int) → Option St
  | st, [] => some st
  | st, (k, a) :: r => (stepW l s st k a).bind fun st' => foldW l s st' r

def st0 (l : Nat) : St := { pos := 0, marks := 0, last := l, gos := 0, on := true :: List.replicate l false }

/-- What Walk answers of right numbers: how many Gos, or nothing. -/
def walkR (l s : Nat) (acts : List (Int × Int)) : Option Int :=
  (foldW l s (st0 l) acts).bind fun st => if 0 < st.last then none else some st.gos

def walkV (r : Option Int) : Value := match r with
  | some n => .tuple #[.int .i64 n, .int .i64 0]
  | none => .tuple #[.int .i64 0, .int .i64 24]

/-- The slice value v reads as these acts. -/
def ReadsActs (v : Value) (acts : List (Int × Int)) (w : World) : Prop :=
  (acts = [] ∧ ∃ a cap, v = .slice a 0 cap) ∨
  ∃ g off cap, v = .slice (some ⟨g, off, none⟩) acts.length cap ∧ g < w.heap.size ∧ ∀ (i : Nat) (k a : Int), acts[i]? = some (k, a) → w.cell? ⟨g, off + i * 2, none⟩ = some (.int .i64 k) ∧ w.cell? ⟨g, off + i * 2 + 1, none⟩ = some (.int .i64 a)

/-- What holds of a traversal after n acts. -/
structure StN (l n : Nat) (st : St) : Prop where
  p0 : 0 ≤ st.pos
  p1 : st.pos ≤ l
  m0 : -(n : Int) ≤ st.marks
  m1 : st.marks ≤ n
  l0 : 0 ≤ st.last
  l1 : st.last ≤ l
  g0 : 0 ≤ st.gos
  g1 : st.gos ≤ n

theorem StN.ok {l n : Nat} {st : St} (h : StN l n st) (hn : n ≤ 1000000000000000) : StOk l st := by
  obtain ⟨p0, p1, m0, m1, l0, l1, g0, g1⟩ := h
  exact ⟨p0, p1, by omega, by omega, l0, l1, g0, by omega⟩
theorem StN.zero (l : Nat) : StN l 0 (st0 l) := ⟨by simp [st0], by simp [st0], by simp [st0], by simp [st0], by simp [st0], by simp [st0], by simp [st0], by simp [st0]⟩
theorem StN.step {l n s : Nat} {st st' : St} {k a : Int} (h : StN l n st) (hs : stepW l s st k a = some st') : StN l (n + 1) st' := by
  obtain ⟨p0, p1, m0, m1, l0, l1, g0, g1⟩ := h
  unfold stepW at hs
  split at hs
  · split at hs
    · simp only [Option.some.injEq] at hs; subst hs; constructor <;> simp only <;> omega
    · cases hs
  split at hs
  · split at hs
    · simp only [Option.some.injEq] at hs; subst hs; constructor <;> simp only <;> omega
    · cases hs
  split at hs
  · split at hs
    · simp only [Option.some.injEq] at hs; subst hs; constructor <;> simp only <;> omega
    · cases hs
  split at hs
  · split at hs
    · simp only [Option.some.injEq] at hs; subst hs; constructor <;> simp only <;> omega
    · cases hs
  split at hs
  · split at hs
    · rename_i hh
      obtain ⟨j, rfl, hj⟩ := hasB_range hh
      simp only [Option.some.injEq] at hs; subst hs; constructor <;> simp only <;> omega
    · cases hs
  · cases hs

theorem foldW_snoc (l s : Nat) (st : St) (acts : List (Int × Int)) (k a : Int) : foldW l s st (acts ++ [(k, a)]) = (foldW l s st acts).bind fun st' => stepW l s st' k a := by
  induction acts generalizing st with
  | nil => simp only [List.nil_append, foldW, Option.bind_some]; cases stepW l s st k a <;> rfl
  | cons x r ih =>
    obtain ⟨k', a'⟩ := x
    simp only [List.cons_append, foldW]
    cases stepW l s st k' a' with
    | none => rfl
    | some st' => simp only [Option.bind_some]; exact ih st'

theorem foldW_none (l s : Nat) (st : St) (acts rest : List (Int × Int)) (h : foldW l s st acts = none) : foldW l s st (acts ++ rest) = none := by
  induction acts generalizing st with
  | nil => simp [foldW] at h
  | cons x r ih =>
    obtain ⟨k', a'⟩ := x
    simp only [List.cons_append, foldW] at h ⊢
    cases hx : stepW l s st k' a' with
    | none => rfl
    | some st' => rw [hx] at h; simp only [Option.bind_some] at h ⊢; exact ih st' h

theorem take_snoc {α : Type} (l : List α) (k : Nat) (x : α) (h : l[k]? = some x) : l.take (k + 1) = l.take k ++ [x] := by
  rw [List.take_add_one, h]; rfl

theorem Try.info4 : (Try.prog.info? 4).map (fun i => (i.zero, i.size, i.bytes)) = some (some (.bool false), 1, 1) := by kernel_rfl

theorem make_marks (l : Nat) (L : Int) (hL : L = l) (h2 : l ≤ 512) (w : World) :
    (Instr.makeSlice 43 (.int .i64 (L + 1)) (.int .i64 (L + 1))).run Try.prog w = .ok (.slice (some ⟨w.heap.size, 0, none⟩) (l + 1) (l + 1)) (w.alloc (.cells (markCells (List.replicate (l + 1) false)) 4)) := by
  obtain ⟨i0, hi, hz0, hz1, hz2⟩ := info_parts Try.info4
  have h := run_make (P := Try.prog) w 43 4 i0 (.bool false) Try.underlying43 hi hz0 .i64 .i64 (L + 1) (L + 1) (by omega) (by omega) (by rw [hz2]; omega) (by omega)
  rw [h, hz1]
  have e : (L + 1).toNat = l + 1 := by omega
  rw [e]
  congr 3
  apply Array.toList_inj.1
  simp [Value.cells, toList_madeCells_one, markCells]

set_option maxHeartbeats 800000 in
theorem Walk_yes (l s : Nat) (L S : Int) (v : Value) (acts : List (Int × Int)) (w : World) (hL : L = l) (hS : S = s) (h1 : 1 ≤ l) (h2 : l ≤ 512) (h3 : s ≤ 512) (hr : ReadsActs v acts w) (hlen : acts.length ≤ 1000000000000000) :
    Calls Try.prog 12 #[.int .i64 L, .int .i64 S, v] w fun e w' => e = .returned (walkV (walkR l s acts)) ∧ Below w.heap.size w w' := by
  have hin : insB L S = true := by unfold insB; simp; omega
  have hmk := make_marks l L hL h2
  have b1 : 1 ≤ L := by omega
  have b2 : L ≤ 512 := by omega
  have H := Lib.hid hin
  have HL := Lib.hid hL
  have HS := Lib.hid hS
  clear hin hL hS
  obtain ⟨a0, cap, hv⟩ : ∃ a0 cap, v = .slice a0 acts.length cap := by
    rcases hr with ⟨rfl, a, cap, rfl⟩ | ⟨g, off, cap, rfl, _⟩
    · exact ⟨a, cap, rfl⟩
    · exact ⟨_, _, rfl⟩
  subst hv
  go_enter Try.func12, Try.ntmps12
  go_wp2_with (go_at_call 22; refine (inside_yes _ _ _ H.out).mono ?_; rintro e w' ⟨rfl, rfl⟩)
  have hw0 : WalkAt (w.heap.size + 1) w.heap.size l s (st0 l) ((w.alloc (.cells ((markCells (List.replicate (l + 1) false)).setIfInBounds 0 (.bool true)) 4)).alloc (.cells #[.int .i64 L, .int .i64 S, .int .i64 0, .int .i64 0, .int .i64 L, .int .i64 0, .slice (some ⟨w.heap.size, 0, none⟩) (l + 1) (l + 1)] 45)) := by
    refine ⟨?_, ?_, by simp [st0], by omega⟩
    · have := heap_alloc_new (w.alloc (.cells ((markCells (List.replicate (l + 1) false)).setIfInBounds 0 (.bool true)) 4)) (.cells #[.int .i64 L, .int .i64 S, .int .i64 0, .int .i64 0, .int .i64 L, .int .i64 0, .slice (some ⟨w.heap.size, 0, none⟩) (l + 1) (l + 1)] 45)
      simp only [World.size_alloc] at this
      rw [this, HL.out, HS.out]; rfl
    · rw [Below.heap_alloc _ _ _ (by simp), heap_alloc_new]
      simp [markCells, st0, List.replicate_succ]
  go_loopw [27] (fun i wr => ∃ (k : Nat) (st : St), k ≤ acts.length ∧ i = .int .i64 k ∧ Hid (foldW l s (st0 l) (acts.take k) = some st) ∧ StN l k st ∧ WalkAt (w.heap.size + 1) w.heap.size l s st wr ∧ Below w.heap.size w wr) (fun i _ => acts.length - (intOf i).toNat)
  case atStart => exact ⟨0, st0 l, by omega, rfl, rfl, StN.zero l, hw0, ((Below.refl _ _).alloc (Nat.le_refl _) _).alloc (by simp) _⟩
  case round =>
    clear hw0
    obtain ⟨k, st, hk, rfl, hfold, hst, hwk, hbk⟩ := hrel
    have hok := hst.ok (by omega)
    by_cases hlt : k < acts.length
    · rcases hr with ⟨rfl, _⟩ | ⟨g, off, cap', hv, hgl, hcell⟩
      · simp at hlt
      have hv' : a0 = some ⟨g, off, none⟩ := by injection hv
      subst hv'
      obtain ⟨⟨kk, aa⟩, hka⟩ : ∃ x, acts[k]? = some x := ⟨_, List.getElem?_eq_getElem hlt⟩
      obtain ⟨q1, q2⟩ := hcell k kk aa hka
      have q3 : wr.cell? ⟨g, off + k * 2, none⟩ = some (.int .i64 kk) := by rw [hbk.cell hgl]; exact q1
      have q4 : wr.cell? ⟨g, off + k * 2 + 1, none⟩ = some (.int .i64 aa) := by rw [hbk.cell hgl]; exact q2
      have HKA := Lib.hid hka
      clear q1 q2 hcell hv hka
      have nz := hwk.ltb
      go_wp2_with fail
      refine (do_any w.heap.size (w.heap.size + 1) w.heap.size l s st kk aa _ (hwk.alloc _) h2 h3 hok (by omega) (Nat.le_refl _)).mono ?_
      rintro e w1 ⟨hb1, ⟨st', hst', rfl, hwk1⟩ | ⟨hnone, rfl⟩⟩
      · have HST := Lib.hid hst'
        clear hst'
        go_wp2_with fail
        go_roundw
        case rel =>
          refine ⟨k + 1, st', by omega, by go_num, ?_, hst.step HST.out, hwk1, (hbk.alloc (by omega) _).trans hb1⟩
          show foldW l s (st0 l) (acts.take (k + 1)) = some st'
          rw [take_snoc acts k _ HKA.out, foldW_snoc, hfold.out]; exact HST.out
        case measure => simp [intOf]; omega
      · have hres : walkR l s acts = none := by
          unfold walkR
          have e1 : foldW l s (st0 l) (acts.take (k + 1)) = none := by
            rw [take_snoc acts k _ HKA.out, foldW_snoc, hfold.out]; exact hnone
          have e2 := foldW_none l s (st0 l) (acts.take (k + 1)) (acts.drop (k + 1)) e1
          rw [List.take_append_drop] at e2
          rw [e2]; rfl
        have HR := Lib.hid hres
        clear hres hnone
        go_wp2_with fail
        go_ret2
        exact ⟨by rw [HR.out]; rfl, (hbk.alloc (by omega) _).trans hb1⟩
    · obtain rfl : k = acts.length := by omega
      have e0 := hfold.out
      rw [List.take_length] at e0
      have n4 := hwk.c4
      have n5 := hwk.c5
      have l0 := hok.l0
      by_cases hlast : 0 < st.last
      · have hres : walkR l s acts = none := by unfold walkR; rw [e0]; simp [hlast]
        have HR := Lib.hid hres
        clear hres e0
        go_wp2_with fail
        go_ret2
        exact ⟨by rw [HR.out]; rfl, hbk⟩
      · have hres : walkR l s acts = some st.gos := by unfold walkR; rw [e0]; simp [hlast]
        have HR := Lib.hid hres
        clear hres e0
        go_wp2_with fail
        go_ret2
        exact ⟨by rw [HR.out]; rfl, hbk⟩

set_option maxHeartbeats 400000 in
theorem Walk_no (l s : Int) (v : Value) (w : World) (h : insB l s = false) :
    Calls Try.prog 12 #[.int .i64 l, .int .i64 s, v] w fun e w' => e = .returned (.tuple #[.int .i64 0, .int .i64 11]) ∧ w = w' := by
  have H := Lib.hid h
  clear h
  go_enter Try.func12, Try.ntmps12
  go_wp2_with (go_at_call 22; refine (inside_no _ _ _ H.out).mono ?_; rintro e w' ⟨rfl, rfl⟩)
  go_ret2
  exact ⟨rfl, rfl⟩

end Go.Proofs.Ythbdhcbdhcgkfaa
