/- The walks of find, Get and Set at tables of entries. Condition: fewer than 256 entries, the keys in order. -/
import Derived.Test.YtbjfojdhdjehpaaTdii
import Derived.Test.YtbjfojdhdjehpaaTca
namespace Go.Proofs.Ytbjfojdhdjehpaa
open Go.RowKit
set_option linter.unusedVariables false
set_option linter.unusedSimpArgs false

theorem Tab_ii.oth {p : Nat} {S : List Nat} {L : List (Int × Int)} {w w' : World} {T : List Nat} (h : Tab_ii p S L w) (ho : Oth T w w') (hd : ∀ k, k ∈ S → k ∉ T) : Tab_ii p S L w' := by
  rcases h with ⟨rfl, rfl, b, c, hp⟩ | ⟨h0, gp, c, g, cap, rfl, n1, n2, n3, hp, hc, hgp, hr⟩
  · exact .inl ⟨rfl, rfl, b, c, ho.heap hp (hd p (by simp))⟩
  · exact .inr ⟨h0, gp, c, g, cap, rfl, n1, n2, n3, ho.heap hp (hd p (by simp)), hc, ho.heap hgp (hd gp (by simp)), hr.oth ho (hd g (by simp))⟩
theorem Tab_ii.lt {p : Nat} {S : List Nat} {L : List (Int × Int)} {w : World} (h : Tab_ii p S L w) : ∀ k, k ∈ S → k < w.heap.size := by
  rcases h with ⟨rfl, rfl, b, c, hp⟩ | ⟨h0, gp, c, g, cap, rfl, n1, n2, n3, hp, hc, hgp, hr⟩
  · intro k hk; simp at hk; subst hk; exact lt_of_block hp
  · intro k hk; simp at hk
    rcases hk with rfl | rfl | rfl
    · exact lt_of_block hp
    · exact lt_of_block hgp
    · exact hr.lt
theorem Tab_ii.self {p : Nat} {S : List Nat} {L : List (Int × Int)} {w : World} (h : Tab_ii p S L w) : p ∈ S := by
  rcases h with ⟨rfl, rfl, b, c, hp⟩ | ⟨h0, gp, c, g, cap, rfl, n1, n2, n3, hp, hc, hgp, hr⟩ <;> simp

set_option maxHeartbeats 1000000 in
theorem find_none_ii (p : Nat) (b : Option Addr) (c : Nat) (k : Int) (w : World) (h3 : w.cell? ⟨p, 0, none⟩ = some (.slice b 0 c)) :
    Calls Try.prog 26 #[.pointer (some ⟨p, 0, none⟩), (Value.int .i64 k)] w fun e w' => e = .returned (.tuple #[.int .i64 0, .int .i64 0, .bool false]) ∧ Oth [] w w' := by
  have hp : p < w.heap.size := World.block_lt_of_cell? w _ h3
  go_enter Try.func26, Try.ntmps26
  go_wp2_with (go_at_call 42; refine (search0_ii _ _).mono ?_; rintro e w' ⟨rfl, rfl⟩)
  go_ret3
  exact ⟨rfl, ((Oth.refl _ _).alloc _).alloc _⟩

theorem find_any_ii (p : Nat) (S : List Nat) (L : List (Int × Int)) (k : Int) (w : World) (ht : Tab_ii p S L w) (hok : ∀ p ∈ L, okI p.1) (hk : okI k) (hs : Srt L) (h1 : L.length ≤ 1000) :
    Calls Try.prog 26 #[.pointer (some ⟨p, 0, none⟩), (Value.int .i64 k)] w fun e w' => e = .returned (.tuple #[.int .i64 0, .int .i64 (idx k L), .bool (hasK k L)]) ∧ Oth [] w w' := by
  rcases ht with ⟨rfl, rfl, b, c, hp⟩ | ⟨h0, gp, c, g, cap, rfl, n1, n2, n3, hp, hc, hgp, hr⟩
  · exact find_none_ii p b c k w (by simp [World.cell?, hp])
  · exact find_some_ii p gp c g L.length cap L k w (by simp [World.cell?, hp]) (by simp [World.cell?, hgp]) hr rfl h0 hok hk hs h1

set_option maxHeartbeats 1000000 in
theorem Get_any_ii (p : Nat) (S : List Nat) (L : List (Int × Int)) (k : Int) (w : World) (ht : Tab_ii p S L w) (hok : ∀ p ∈ L, okI p.1) (hk : okI k) (hs : Srt L) (h1 : L.length ≤ 1000) :
    Calls Try.prog 9 #[.pointer (some ⟨p, 0, none⟩), (Value.int .i64 k)] w fun e w' => e = .returned (.tuple #[(Value.int .i64 (getK 0 k L)), .bool (hasK k L)]) ∧ Oth [] w w' := by
  have HF := Lib.hid (find_any_ii p S L k w ht hok hk hs h1)
  cases hh : hasK k L with
  | false =>
    have hg : getK 0 k L = 0 := getK_no hh
    rw [hg]
    rw [hh] at HF
    clear hh hg ht hok hk hs h1
    go_enter Try.func9, Try.ntmps9
    go_wp2_with fail
    refine HF.out.mono ?_
    rintro e w1 ⟨rfl, ho⟩
    go_wp2
    go_ret2
    exact ⟨rfl, ho⟩
  | true =>
    obtain ⟨v, hv⟩ := hasK_at hh
    have hg : getK 0 k L = v := getK_at hv
    rw [hg]
    rw [hh] at HF
    have hi : idx k L < L.length := (List.getElem?_eq_some_iff.1 hv).1
    rcases ht with ⟨rfl, rfl, b, c, hp⟩ | ⟨h0, gp, c, g, cap, rfl, n1, n2, n3, hp, hc, hgp, hr⟩
    · simp at hi
    · have c1 : w.cell? ⟨p, 0, none⟩ = some (.slice (some ⟨gp, 0, none⟩) 1 c) := by simp [World.cell?, hp]
      have c2 : w.cell? ⟨gp, 0, none⟩ = some (.slice (some ⟨g, 0, none⟩) L.length cap) := by simp [World.cell?, hgp]
      have c3 : w.cell? ⟨g, idx k L * 2 + 1, none⟩ = some (Value.int .i64 v) := hr.cell (ecs_val L _ k v hv)
      obtain ⟨n, hn⟩ : ∃ n, n = L.length := ⟨_, rfl⟩
      obtain ⟨x, hx⟩ : ∃ x, x = idx k L := ⟨_, rfl⟩
      rw [← hn] at hi c2 h1
      rw [← hx] at hi c3 HF
      have t1 : (x : Int) < (n : Int) := by omega
      clear hh hg hok hk hs hp hgp hr hv n1 n2 n3 hx hn h0
      go_enter Try.func9, Try.ntmps9
      go_wp2_with fail
      refine HF.out.mono ?_
      rintro e w1 ⟨rfl, ho⟩
      have d1 := ho.cell c1 (by simp)
      have d2 := ho.cell c2 (by simp)
      have d3 := ho.cell c3 (by simp)
      go_wp2
      go_ret2
      exact ⟨rfl, ho⟩

set_option maxHeartbeats 1000000 in
theorem Set_yes_ii (p : Nat) (S : List Nat) (L : List (Int × Int)) (k : Int) (v : Int) (w : World) (ht : Tab_ii p S L w) (hok : ∀ p ∈ L, okI p.1) (hk : okI k) (hs : Srt L) (h1 : L.length < 256) (hh : hasK k L = true) :
    Calls Try.prog 25 #[.pointer (some ⟨p, 0, none⟩), (Value.int .i64 k), (Value.int .i64 v)] w fun e w' => e = .returned (.bool false) ∧ Tab_ii p S (putK k v L) w' ∧ Oth S w w' := by
  have HF := Lib.hid (find_any_ii p S L k w ht hok hk hs (by omega))
  obtain ⟨old, hv⟩ := hasK_at hh
  have hput : putK k v L = L.set (idx k L) (k, v) := by unfold putK; rw [hh]; rfl
  rw [hput]
  rw [hh] at HF
  have hi : idx k L < L.length := (List.getElem?_eq_some_iff.1 hv).1
  rcases ht with ⟨rfl, rfl, b, c, hp⟩ | ⟨h0, gp, c, g, cap, rfl, n1, n2, n3, hp, hc, hgp, hr⟩
  · simp at hi
  · have c1 : w.cell? ⟨p, 0, none⟩ = some (.slice (some ⟨gp, 0, none⟩) 1 c) := by simp [World.cell?, hp]
    have c2 : w.cell? ⟨gp, 0, none⟩ = some (.slice (some ⟨g, 0, none⟩) L.length cap) := by simp [World.cell?, hgp]
    have c3 : w.cell? ⟨g, idx k L * 2 + 1, none⟩ = some (Value.int .i64 old) := hr.cell (ecs_val L _ k old hv)
    have HE := Lib.hid (ecs_set (kv := fun k => (Value.int .i64 k)) (vv := fun v => (Value.int .i64 v)) L _ k old v hv)
    obtain ⟨x, hx⟩ : ∃ x, x = idx k L := ⟨_, rfl⟩
    rw [← hx] at hi c3 HF HE ⊢
    have HL : Hid ((L.set x (k, v)).length = L.length) := by simp [Hid]
    obtain ⟨M, hM⟩ : ∃ M, M = L.set x (k, v) := ⟨_, rfl⟩
    rw [← hM] at HE HL ⊢
    obtain ⟨n, hn⟩ : ∃ n, n = L.length := ⟨_, rfl⟩
    rw [← hn] at hi c2 h1 hp hgp hr h0 HL
    have t1 : (x : Int) < (n : Int) := by omega
    have HP := Lib.hid hp
    have HGP := Lib.hid hgp
    have HR := Lib.hid hr
    have N1 := Lib.hid n1
    have N2 := Lib.hid n2
    have N3 := Lib.hid n3
    clear hh hok hk hs hp hgp hr hv n1 n2 n3 hx hn hM hput
    go_enter Try.func25, Try.ntmps25
    go_wp2_with fail
    refine HF.out.mono ?_
    rintro e w1 ⟨rfl, ho⟩
    have d1 := ho.cell c1 (by simp)
    have d2 := ho.cell c2 (by simp)
    have d3 := ho.cell c3 (by simp)
    have f3 := (HR.out.oth ho (by simp)).free (x * 2 + 1)
    go_wp2
    go_ret
    refine ⟨rfl, .inr ⟨by rw [HL.out]; exact h0, gp, c, g, cap, rfl, N1.out, N2.out, N3.out, ?_, hc, ?_, ?_⟩, ?_⟩
    · rw [HL.out]; exact heap_other (ho.heap HP.out (by simp)) N2.out _
    · rw [HL.out]; exact heap_other (ho.heap HGP.out (by simp)) N3.out _
    · have := (HR.out.oth ho (by simp)).set (x * 2 + 1) (Value.int .i64 v)
      rw [HL.out]
      unfold ent_ii at this ⊢
      rw [HE.out] at this
      exact this
    · exact (ho.mono (by simp)).setCell (.inl (by simp)) _

set_option maxHeartbeats 1000000 in
theorem Set_first_ii (p : Nat) (b : Option Addr) (c : Nat) (k : Int) (v : Int) (w : World) (hp : w.heap[p]? = some (.cells #[.slice b 0 c, .int .i64 0] 63 (0, 0))) (hk : okI k) :
    Calls Try.prog 25 #[.pointer (some ⟨p, 0, none⟩), (Value.int .i64 k), (Value.int .i64 v)] w fun e w' => e = .returned (.bool true) ∧ (∃ S', Tab_ii p S' [(k, v)] w' ∧ Fr [p] w S') ∧ Oth [p] w w' := by
  have c1 : w.cell? ⟨p, 0, none⟩ = some (.slice b 0 c) := by simp [World.cell?, hp]
  have c2 : w.cell? ⟨p, 1, none⟩ = some (.int .i64 0) := by simp [World.cell?, hp]
  have HF := Lib.hid (find_none_ii p b c k w c1)
  have HP := Lib.hid hp
  have hpl := lt_of_block hp
  clear hp
  go_enter Try.func25, Try.ntmps25
  go_wp2_with fail
  refine HF.out.mono ?_
  rintro e w1 ⟨rfl, ho⟩
  have d1 := ho.cell c1 (by simp)
  have d2 := ho.cell c2 (by simp)
  have hp1 := ho.heap HP.out (by simp)
  have f2 : w1.frozen? ⟨p, 1, none⟩ = false := by simp [World.frozen?, hp1]
  have hs1 := ho.size
  obtain ⟨W, hW⟩ : ∃ W, W = ((w1.setCell ⟨p, 1, none⟩ (.int .i64 1)).alloc (.cells #[(Value.int .i64 k), (Value.int .i64 v)] 68)).alloc (.cells #[.slice (some ⟨w1.heap.size, 0, none⟩) 1 1] 69) := ⟨_, rfl⟩
  have hoW : Oth [] (w1.setCell ⟨p, 1, none⟩ (.int .i64 1)) W := by rw [hW]; exact ((Oth.refl _ _).alloc _).alloc _
  have hpW : W.heap[p]? = some (.cells #[.slice b 0 c, .int .i64 1] 63 (0, 0)) := hoW.heap (two_set1 hp1) (by simp)
  have hsz : (w1.setCell ⟨p, 1, none⟩ (.int .i64 1)).heap.size = w1.heap.size := by simp [World.setCell]
  have hg : W.heap[w1.heap.size]? = some (.cells #[(Value.int .i64 k), (Value.int .i64 v)] 68 (0, 0)) := by
    rw [hW, Below.heap_alloc _ _ _ (by simp), ← hsz]; exact heap_alloc_new _ _
  have hgp : W.heap[w1.heap.size + 1]? = some (.cells #[.slice (some ⟨w1.heap.size, 0, none⟩) 1 1] 69 (0, 0)) := by
    rw [hW]
    have := heap_alloc_new ((w1.setCell ⟨p, 1, none⟩ (.int .i64 1)).alloc (.cells #[(Value.int .i64 k), (Value.int .i64 v)] 68)) (.cells #[.slice (some ⟨w1.heap.size, 0, none⟩) 1 1] 69)
    simpa using this
  have e1 : W.cell? ⟨p, 0, none⟩ = some (.slice b 0 c) := by simp [World.cell?, hpW]
  have e2 : W.frozen? ⟨p, 0, none⟩ = false := by simp [World.frozen?, hpW]
  have ho4 : Oth [p] w (W.setCell ⟨p, 0, none⟩ (.slice (some ⟨w1.heap.size + 1, 0, none⟩) 1 1)) := by
    rw [hW]
    exact ((((ho.mono (by simp)).setCell (p := ⟨p, 1, none⟩) (.inl (by simp)) _).alloc _).alloc _).setCell (.inl (by simp)) _
  have HT : Hid (∃ S', Tab_ii p S' [(k, v)] (W.setCell ⟨p, 0, none⟩ (.slice (some ⟨w1.heap.size + 1, 0, none⟩) 1 1)) ∧ Fr [p] w S') := by
    refine ⟨[p, w1.heap.size + 1, w1.heap.size], .inr ⟨by simp, w1.heap.size + 1, 1, w1.heap.size, 1, rfl, by omega, by omega, by omega, two_set0 hpW, ⟨by omega, by unfold maxLen; omega⟩, heap_other hgp (by simp; omega) _, ?_⟩, ?_⟩
    · refine Row.other ⟨_, hg, by simp, by unfold maxLen; simp, by simp, by simp [ent_ii, ecs], fun j hj => ?_⟩ (by simp; omega) _
      match j with
      | 0 => simp [ent_ii, ecs]
      | 1 => simp [ent_ii, ecs]
      | j + 2 => exact absurd hj (by simp only [List.length_cons, List.length_nil]; omega)
    · intro k hk; simp at hk
      rcases hk with rfl | rfl | rfl
      · exact .inl (by simp)
      · exact .inr (by omega)
      · exact .inr (by omega)
  rw [hW] at e1 e2 ho4 HT
  have HO := Lib.hid ho4
  clear hp1 hpW hW hoW hsz hg hgp ho4
  go_wp2
  go_ret
  exact ⟨rfl, HT.out, HO.out⟩

set_option maxHeartbeats 4000000 in
set_option maxRecDepth 100000 in
theorem Set_new_ii (p gp c g n cap x : Nat) (L : List (Int × Int)) (k : Int) (v : Int) (w : World) (hp : w.heap[p]? = some (.cells #[.slice (some ⟨gp, 0, none⟩) 1 c, .int .i64 n] 63 (0, 0))) (hc : 1 ≤ c ∧ c ≤ maxLen)
    (hgp : w.heap[gp]? = some (.cells #[.slice (some ⟨g, 0, none⟩) n cap] 69 (0, 0))) (hr : Row 68 2 g n cap (ent_ii L) w) (n1 : p ≠ gp) (n2 : p ≠ g) (n3 : gp ≠ g) (h0 : 0 < n) (h1 : n < 256) (hx : x ≤ n) (hn : n = L.length)
    (HF : Hid (Calls Try.prog 26 #[.pointer (some ⟨p, 0, none⟩), (Value.int .i64 k)] w fun e w' => e = .returned (.tuple #[.int .i64 0, .int .i64 x, .bool false]) ∧ Oth [] w w')) :
    Calls Try.prog 25 #[.pointer (some ⟨p, 0, none⟩), (Value.int .i64 k), (Value.int .i64 v)] w fun e w' => e = .returned (.bool true) ∧ (∃ S', Tab_ii p S' (L.take x ++ (k, v) :: L.drop x) w' ∧ Fr [p, gp, g] w S') ∧ Oth [p, gp, g] w w' := by
  have c1 : w.cell? ⟨p, 0, none⟩ = some (.slice (some ⟨gp, 0, none⟩) 1 c) := by simp [World.cell?, hp]
  have c2 : w.cell? ⟨p, 1, none⟩ = some (.int .i64 n) := by simp [World.cell?, hp]
  have hpl := lt_of_block hp
  have hgpl := lt_of_block hgp
  have hgl := hr.lt
  have HP := Lib.hid hp
  have HGP := Lib.hid hgp
  have HR := Lib.hid hr
  have N1 := Lib.hid n1
  have N2 := Lib.hid n2
  have N3 := Lib.hid n3
  have HN := Lib.hid hn
  clear hp hgp hr n1 n2 n3 hn
  go_enter Try.func25, Try.ntmps25
  go_wp2_with fail
  refine HF.out.mono ?_
  rintro e w1 ⟨rfl, ho⟩
  have d1 := ho.cell c1 (by simp)
  have d2 := ho.cell c2 (by simp)
  have hp1 := ho.heap HP.out (by simp)
  have hgp1 := ho.heap HGP.out (by simp)
  have hr1 := HR.out.oth ho (by simp)
  have f2 : w1.frozen? ⟨p, 1, none⟩ = false := by simp [World.frozen?, hp1]
  have hs1 := ho.size
  have hp2 := two_set1 (u := .int .i64 ((n : Int) + 1)) hp1
  have hgp2 := heap_other hgp1 (a := ⟨p, 1, none⟩) N1.out.symm (.int .i64 ((n : Int) + 1))
  have hr2 := hr1.other (a := ⟨p, 1, none⟩) N2.out.symm (.int .i64 ((n : Int) + 1))
  have ho2 : Oth [p, gp, g] w (w1.setCell ⟨p, 1, none⟩ (.int .i64 ((n : Int) + 1))) := (ho.mono (by simp)).setCell (.inl (by simp)) _
  obtain ⟨W, hW⟩ : ∃ W, W = w1.setCell ⟨p, 1, none⟩ (.int .i64 ((n : Int) + 1)) := ⟨_, rfl⟩
  rw [← hW] at hp2 hgp2 hr2 ho2
  have e1 : W.cell? ⟨p, 0, none⟩ = some (.slice (some ⟨gp, 0, none⟩) 1 c) := by simp [World.cell?, hp2]
  have e2 : W.cell? ⟨gp, 0, none⟩ = some (.slice (some ⟨g, 0, none⟩) n cap) := by simp [World.cell?, hgp2]
  have hsz : W.heap.size = w1.heap.size := by rw [hW]; simp [World.setCell]
  have HI : Hid (Calls Try.prog 39 #[.slice (some ⟨g, 0, none⟩) n cap, .int .i64 x, .slice (some ⟨W.heap.size, 0, none⟩) 1 1] (W.alloc (.cells #[(Value.int .i64 k), (Value.int .i64 v)] 68)) fun e w' => ∃ g' cap', e = .returned (.slice (some ⟨g', 0, none⟩) (n + 1) cap') ∧ Row 68 2 g' (n + 1) cap' (insAt (ent_ii L) (x * 2) (Value.int .i64 k) (Value.int .i64 v)) w' ∧ Oth [g] (W.alloc (.cells #[(Value.int .i64 k), (Value.int .i64 v)] 68)) w' ∧ (g' = g ∨ (W.alloc (.cells #[(Value.int .i64 k), (Value.int .i64 v)] 68)).heap.size ≤ g')) :=
    insert_any_ii g n cap x W.heap.size (ent_ii L) _ _ _ (hr2.alloc _) (heap_alloc_new _ _) (by have := hr2.lt; omega) (ecs_one (fun _ => rfl) (fun _ => rfl) L) rfl rfl (by omega) hx
  have HP2 := Lib.hid hp2
  have HGP2 := Lib.hid hgp2
  have HO2 := Lib.hid ho2
  have HSZ := Lib.hid hsz
  rw [hW] at e1 e2
  have HW := Lib.hid hW
  clear hp1 hgp1 hr1 hp2 hgp2 hr2 ho2 hW hsz
  have HE := Lib.hid (ecs_ins (kv := fun k => (Value.int .i64 k)) (vv := fun v => (Value.int .i64 v)) L x k v)
  go_wp2_with fail
  rw [← HW.out, ← HSZ.out]
  refine HI.out.mono ?_
  rintro e w3 ⟨g', cap', rfl, hr3, ho3, hg'⟩
  have hoa : Oth [g] W w3 := ((Oth.refl [g] W).alloc _).trans ho3 (Fr.refl _ _)
  have hp3 := hoa.heap HP2.out (by simpa using N2.out)
  have hgp3 := hoa.heap HGP2.out (by simpa using N3.out)
  have g1 : w3.cell? ⟨p, 0, none⟩ = some (.slice (some ⟨gp, 0, none⟩) 1 c) := by simp [World.cell?, hp3]
  have g2 : w3.cell? ⟨gp, 0, none⟩ = some (.slice (some ⟨g, 0, none⟩) n cap) := by simp [World.cell?, hgp3]
  have g3 : w3.frozen? ⟨gp, 0, none⟩ = false := by simp [World.frozen?, hgp3]
  have t1 : ¬ (256 : Int) < (n : Int) + 1 := by omega
  have hg2 : g' = g ∨ w1.heap.size < g' := hg'.imp id (fun h => by simp at h; have := HSZ.out; omega)
  have hgg : gp ≠ g' := by have := N3.out; omega
  have hpg : p ≠ g' := by have := N2.out; omega
  have HFIN : Hid ((∃ S', Tab_ii p S' (L.take x ++ (k, v) :: L.drop x) (w3.setCell ⟨gp, 0, none⟩ (.slice (some ⟨g', 0, none⟩) (n + 1) cap')) ∧ Fr [p, gp, g] w S') ∧ Oth [p, gp, g] w (w3.setCell ⟨gp, 0, none⟩ (.slice (some ⟨g', 0, none⟩) (n + 1) cap'))) := by
    have hl : (L.take x ++ (k, v) :: L.drop x).length = n + 1 := by
      have := HN.out; simp; omega
    refine ⟨⟨[p, gp, g'], .inr ⟨by omega, gp, c, g', cap', rfl, N1.out, hpg, hgg, ?_, hc, ?_, ?_⟩, ?_⟩, ?_⟩
    · rw [hl]; exact heap_other hp3 N1.out _
    · rw [hl]; exact one_set0 hgp3
    · rw [hl]
      refine Row.other ?_ (Ne.symm hgg) _
      have := HE.out
      unfold ent_ii at hr3 ⊢
      rw [this] at hr3; exact hr3
    · intro k hk; simp at hk
      rcases hk with rfl | rfl | rfl
      · exact .inl (by simp)
      · exact .inl (by simp)
      · rcases hg2 with rfl | h
        · exact .inl (by simp)
        · exact .inr (by omega)
    · exact (HO2.out.trans hoa (fun k hk => by simp at hk; subst hk; exact .inl (by simp))).setCell (.inl (by simp)) _
  clear hr3 ho3 hg' hoa hp3 hgp3 hg2 hgg hpg e1 e2 d1 d2 c1 c2 f2 HI HF HE
  go_wp2
  go_ret
  exact ⟨rfl, HFIN.out⟩

/-- Set. -/
theorem Set_any_ii (p : Nat) (S : List Nat) (L : List (Int × Int)) (k : Int) (v : Int) (w : World) (ht : Tab_ii p S L w) (hok : ∀ p ∈ L, okI p.1) (hk : okI k) (hs : Srt L) (h1 : L.length < 256) :
    Calls Try.prog 25 #[.pointer (some ⟨p, 0, none⟩), (Value.int .i64 k), (Value.int .i64 v)] w fun e w' => e = .returned (.bool (!hasK k L)) ∧ (∃ S', Tab_ii p S' (putK k v L) w' ∧ Fr S w S') ∧ Oth S w w' := by
  cases hh : hasK k L with
  | true =>
    refine (Set_yes_ii p S L k v w ht hok hk hs h1 hh).mono ?_
    rintro e w' ⟨rfl, h2, h3⟩
    exact ⟨rfl, ⟨S, h2, Fr.refl _ _⟩, h3⟩
  | false =>
    have HF := Lib.hid (find_any_ii p S L k w ht hok hk hs (by omega))
    have hput : putK k v L = L.take (idx k L) ++ (k, v) :: L.drop (idx k L) := by unfold putK; rw [hh]; rfl
    rw [hput]
    rw [hh] at HF
    rcases ht with ⟨rfl, rfl, b, c, hp⟩ | ⟨h0, gp, c, g, cap, rfl, n1, n2, n3, hp, hc, hgp, hr⟩
    · refine (Set_first_ii p b c k v w hp hk).mono ?_
      rintro e w' ⟨rfl, h2⟩
      exact ⟨rfl, h2⟩
    · refine (Set_new_ii p gp c g L.length cap (idx k L) L k v w hp hc hgp hr n1 n2 n3 h0 h1 (idx_le k L) rfl HF).mono ?_
      rintro e w' ⟨rfl, h2⟩
      exact ⟨rfl, h2⟩
end Go.Proofs.Ytbjfojdhdjehpaa
