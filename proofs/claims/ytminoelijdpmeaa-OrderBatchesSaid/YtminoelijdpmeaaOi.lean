/- The walk of order.Take in the twin. -/
import Derived.Test.YtminoelijdpmeaaOh
namespace Go.Proofs.Ytminoelijdpmeaa
open Go.RowKit Lift
set_option linter.unusedVariables false

def u64V (L : List Int) : List Value := L.map (Value.int .u64)

/-- What Take answers of a closed channel. -/
def TakePost (c cap : Nat) (D : List Int) (n : Int) (s r : Nat) (w : World) (e : Ending) (w' : World) : Prop :=
  ∃ u r', e = .returned u ∧ w'.ownsRow w.heap.size 41 1 u (D.take n.toNat).length (u64V (D.take n.toNat)) ∧ w'.heap[c]? = some (.chan cap (u64V (D.drop n.toNat)).toArray true s r' false) ∧ w.grownBy w' (some c)

theorem zero41 (w : World) : (zeroValue 41).run Tw w = .ok (.int .u64 0) w := by simp
/-- A select that takes a value. -/
theorem sel_next {c cap : Nat} {x : Int} {L : List Int} {s r : Nat} {w wr : World} {N k : Nat} {u z : Value} {xs : List Value} (hch : wr.heap[c]? = some (.chan cap (u64V (x :: L)).toArray true s r false)) (hcN : c < N) (hN : w.heap.size = N)
    (hown : wr.ownsRow N 41 1 u k xs) (hgr : w.grownBy wr (some c)) :
    ∃ w2 acts, selRes wr (.chan (some c)) z = some (.tuple #[.int .i64 0, .bool true, .int .u64 x], w2, acts) ∧ w2.ownsRow N 41 1 u k xs ∧ w2.heap[c]? = some (.chan cap (u64V L).toArray true s (r + 1) false) ∧ w.grownBy w2 (some c) ∧ w2.heap.size = wr.heap.size := by
  have hlt := (Array.getElem?_eq_some_iff.1 hch).1
  refine ⟨wr.setChan c cap (u64V L).toArray true s (r + 1) false, #[.recv c r cap, .recvDone c r], ?_, ?_, by simp [World.setChan, hlt], ⟨hgr.os, hgr.tape, hgr.output, by simp [World.setChan]; exact hgr.size, fun k hk hne => ?_⟩, by simp [World.setChan]⟩
  · simp [selRes, hch, u64V, goInt]
    rw [List.take_of_length_le (by simp)]
  · refine ⟨hown.1, ?_⟩
    rcases hown.2 with h | ⟨g, cp, cur, h1, h2, h3, h4⟩
    · exact .inl h
    · refine .inr ⟨g, cp, cur, h1, h2, ?_, h4⟩
      unfold World.setChan
      simp only [Array.getElem?_setIfInBounds_ne (show c ≠ g by omega)]
      exact h3
  · have hne' : c ≠ k := fun e => hne (by rw [e])
    unfold World.setChan
    simp only [Array.getElem?_setIfInBounds_ne hne']
    exact hgr.block k hk hne
/-- A select that finds the channel closed. -/
theorem sel_shut {c cap s r : Nat} {wr : World} {z : Value} (hch : wr.heap[c]? = some (.chan cap (u64V []).toArray true s r false)) :
    selRes wr (.chan (some c)) z = some (.tuple #[.int .i64 0, .bool false, z], wr, #[.recvClosed c]) := by
  simp [selRes, hch, u64V, goInt]
/-- A select at a nil channel. -/
theorem sel_nil {wr : World} {z : Value} : selRes wr (.chan none) z = some (.tuple #[.int .i64 (-1), .bool false, z], wr, #[]) := rfl

theorem take_next {w w2 w3 : World} {o : Obj} {c N k : Nat} {u : Value} {xs : List Value} (hN : w.heap.size = N) (hcN : c < N) (hgr : w.grownBy w2 (some c)) (hown : w2.ownsRow N 41 1 u k xs) (hg : (w2.alloc o).grownBy w3 u.ownBlock) :
    w.grownBy w3 (some c) ∧ w3.heap[c]? = w2.heap[c]? := by
  have hs := hgr.size
  have hlo : ∀ k, u.ownBlock = some k → N ≤ k := fun k hk => (hown.lt k hk).1
  have key : ∀ j, j < N → w3.heap[j]? = w2.heap[j]? := by
    intro j hj
    rw [hg.block j (by simp; omega) (fun e => by have := hlo j e.symm; omega), Below.heap_alloc _ _ _ (by omega)]
  refine ⟨⟨hg.os.trans hgr.os, hg.tape.trans hgr.tape, hg.output.trans hgr.output, by have := hg.size; simp at this; omega, fun j hj hne => ?_⟩, key c hcN⟩
  rw [key j (by omega)]; exact hgr.block j hj hne

def lenOf : Value → Nat
  | .slice _ k _ => k
  | _ => 0
theorem owns_len {w : World} {B k : Nat} {e : TypeId} {v : Value} {xs : List Value} (h : w.ownsRow B e 1 v k xs) : ∃ b cp, v = .slice b k cp := by
  obtain ⟨_, ⟨h1, h2⟩ | ⟨g, cp, cur, h1, _⟩⟩ := h
  · exact ⟨_, _, by rw [h1, h2]⟩
  · exact ⟨_, _, h1⟩

set_option maxHeartbeats 1600000 in
theorem take_any (c cap : Nat) (D : List Int) (n : Int) (s r : Nat) (w : World) (hd : D.length ≤ 100000) (hc : w.heap[c]? = some (.chan cap (u64V D).toArray true s r false)) :
    Calls Tw 17 #[.chan (some c), .int .i64 n] w (TakePost c cap D n s r w) := by
  obtain ⟨i0, hi, hz0, hz1, hz2⟩ := info_parts Tw.info41
  have hcl : c < w.heap.size := (Array.getElem?_eq_some_iff.1 hc).1
  have HCH := Lib.hid hc
  clear hc
  go_enter Tw.func17, Try.ntmps17
  go_wp2
  go_loopw [5] (fun u wr => ∃ (k r' : Nat), k ≤ D.length ∧ (k : Int) ≤ max n 0 ∧ wr.ownsRow w.heap.size 41 1 u k (u64V (D.take k)) ∧ wr.heap[c]? = some (.chan cap (u64V (D.drop k)).toArray true s r' false) ∧ w.grownBy wr (some c)) (fun u _ => D.length - lenOf u)
  case atStart => exact ⟨0, r, by omega, by omega, World.ownsRow_nil _ _ _ _, by simpa using HCH.out, ⟨rfl, rfl, rfl, Nat.le_refl _, fun _ _ _ => rfl⟩⟩
  case round =>
    obtain ⟨k, r', hk, hkn, hown, hch, hgr⟩ := hrel
    obtain ⟨b, cp, rfl⟩ := owns_len hown
    have HOWN := Lib.hid hown
    have HC2 := Lib.hid hch
    have HGR := Lib.hid hgr
    clear hown hch hgr
    by_cases hlt : (k : Int) < n
    · by_cases hkd : k < D.length
      · obtain ⟨x, hx⟩ : ∃ x, D[k]? = some x := ⟨_, List.getElem?_eq_getElem hkd⟩
        have e1 : D.drop k = x :: D.drop (k + 1) := by
          rw [List.drop_eq_getElem_cons hkd]; congr 1; exact (List.getElem?_eq_some_iff.1 hx).2
        have e2 : D.take (k + 1) = D.take k ++ [x] := by
          rw [List.take_succ_eq_append_getElem hkd]; congr 2; exact (List.getElem?_eq_some_iff.1 hx).2
        have hch := HC2.out
        rw [e1] at hch
        obtain ⟨w2, acts, hsel, hown2, hch2, hgr2, hsz2⟩ := sel_next (z := .int .u64 0) hch hcl rfl HOWN.out HGR.out
        have HSEL := Lib.hid hsel
        have HC3 := Lib.hid hch2
        have HGR2 := Lib.hid hgr2
        have E2 := Lib.hid e2
        have hs2 := hgr2.size
        clear hch e1 e2 hx hsel hch2 hgr2 hsz2
        go_upto_region 4 with (fail)
        refine wp_region_select rfl rfl rfl (zero41 _) HSEL.out ?_
        go_wp2_with (at_builtin; refine wpList_append_own _ rfl _ _ 22 rfl w.heap.size 41 i0 _ 1 8 Tw.und22 hi hz0 hz1 hz2 rfl (by decide) _ _ _ rfl (hown2.alloc _) ⟨w2.heap.size, 0, none⟩ 1 1 [.int .u64 x] rfl rfl ?c1 ?c2 ?c3 ?c4 ?c5 ?_)
        case c1 =>
          intro j u hu
          match j with
          | 0 => simp at hu; subst hu; simp [Addr.add, World.cell?_alloc_new]
          | j + 1 => simp at hu
        case c2 => intro u hu; simp at hu; subst hu; rfl
        case c3 => unfold maxLen; omega
        case c4 => omega
        case c5 => simp; omega
        intro v' w3 hown3 hgrow3 _
        obtain ⟨h3, h4⟩ := take_next rfl hcl HGR2.out hown2 hgrow3
        have hown4 : w3.ownsRow w.heap.size 41 1 v' (k + 1) (u64V (D.take (k + 1))) := by
          rw [E2.out]; simpa [u64V] using hown3
        have hch4 := h4.trans HC3.out
        obtain ⟨b', cp', rfl⟩ := owns_len hown4
        have HO4 := Lib.hid hown4
        have HC4 := Lib.hid hch4
        have HG4 := Lib.hid h3
        clear hown3 hgrow3 hown4 hch4 h3 h4 hown2
        go_wp2
        go_roundw
        case rel => exact ⟨k + 1, r' + 1, by omega, by omega, HO4.out, HC4.out, HG4.out⟩
        case measure => simp [lenOf]; omega
      · have hkD : k = D.length := by omega
        have hch := HC2.out
        rw [hkD, List.drop_length] at hch
        have HSEL := Lib.hid (sel_shut (z := .int .u64 0) hch)
        have HCH3 := Lib.hid hch
        have HK := Lib.hid hkD
        clear hch hkD
        go_upto_region 4 with (fail)
        refine wp_region_select rfl rfl rfl (zero41 _) HSEL.out ?_
        go_wp2
        go_ret
        have e1 : D.take n.toNat = D := List.take_of_length_le (by omega)
        have e2 : D.drop n.toNat = [] := List.drop_of_length_le (by omega)
        have h1 := HOWN.out
        rw [HK.out, List.take_length] at h1
        refine ⟨_, r', rfl, ?_, ?_, HGR.out⟩
        · rw [e1, ← HK.out]; rw [← HK.out] at h1; exact h1
        · rw [e2]; exact HCH3.out
    · have hlt' : ¬ (k : Int) < n := hlt
      go_wp2
      go_ret
      have e1 : n.toNat = k := by omega
      refine ⟨_, r', rfl, ?_, ?_, HGR.out⟩
      · rw [e1, List.length_take, Nat.min_eq_left hk]; exact HOWN.out
      · rw [e1]; exact HC2.out

set_option maxHeartbeats 400000 in
theorem take_nil (n : Int) (w : World) : Calls Tw 17 #[.chan none, .int .i64 n] w fun e w' => e = .returned (.slice none 0 0) ∧ w = w' := by
  go_enter Tw.func17, Try.ntmps17
  go_wp2
  go_loop [5] (fun u => u = .slice none 0 0) (fun _ => 0)
  case atStart => rfl
  case round =>
    subst hrel
    by_cases h : (0 : Int) < n
    · go_upto_region 4 with (fail)
      refine wp_region_select rfl rfl rfl (zero41 _) sel_nil ?_
      go_wp2
      go_ret
      exact ⟨rfl, rfl⟩
    · go_wp2
      go_ret
      exact ⟨rfl, rfl⟩
end Go.Proofs.Ytminoelijdpmeaa
