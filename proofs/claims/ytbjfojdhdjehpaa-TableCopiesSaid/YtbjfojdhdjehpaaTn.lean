/- The walks of Pop, Del and Has. Condition: at most 1000 entries, the keys in order. -/
import Derived.Test.YtbjfojdhdjehpaaTla
namespace Go.Proofs.Ytbjfojdhdjehpaa
open Go.RowKit
set_option linter.unusedVariables false
set_option linter.unusedSimpArgs false

set_option maxHeartbeats 1000000 in
theorem Pop_none (p : Nat) (S : List Nat) (w : World) (ht : Tab_is p S [] w) :
    Calls Try.prog 15 #[.pointer (some ⟨p, 0, none⟩)] w fun e w' => e = .returned (.tuple #[.int .i64 0, .string ⟨#[]⟩, .bool false]) ∧ w = w' := by
  have hc : w.cell? ⟨p, 1, none⟩ = some (.int .i64 0) := by
    rcases ht with ⟨_, rfl, b, c, hp⟩ | ⟨h0, _⟩
    · simp [World.cell?, hp]
    · simp at h0
  clear ht
  go_enter Try.func15, Try.ntmps15
  go_wp2
  go_ret3
  exact ⟨rfl, rfl⟩

set_option maxHeartbeats 1000000 in
theorem Pop_some (p : Nat) (S : List Nat) (k : Int) (v : ByteArray) (r : List (Int × ByteArray)) (w : World) (ht : Tab_is p S ((k, v) :: r) w) (h1 : r.length < 1000) :
    Calls Try.prog 15 #[.pointer (some ⟨p, 0, none⟩)] w fun e w' => e = .returned (.tuple #[.int .i64 k, .string v, .bool true]) ∧ (∃ S', Tab_is p S' r w' ∧ Fr S w S') ∧ Oth S w w' := by
  have HD : Hid (Calls Try.prog 32 #[.pointer (some ⟨p, 0, none⟩), .int .i64 0, .int .i64 0] (w.alloc (.cells #[.int .i64 k, .string v] 71)) fun e w' => e = .returned (.tuple #[]) ∧ ((∃ S', Tab_is p S' r w' ∧ Fr S w S') ∧ Oth S w w') ∧ w'.cell? ⟨w.heap.size, 0, none⟩ = some (.int .i64 k) ∧ w'.cell? ⟨w.heap.size, 1, none⟩ = some (.string v)) := by
    have ho : Oth [] w (w.alloc (.cells #[.int .i64 k, .string v] 71)) := (Oth.refl _ _).alloc _
    have hlt := ht.lt
    have hnew : w.heap.size ∉ S := fun h => by have := hlt _ h; omega
    refine (drop_any p S ((k, v) :: r) 0 _ (ht.oth ho (by simp)) (by simp) (by simp; omega)).mono ?_
    rintro e w' ⟨rfl, ⟨S', h2, h3⟩, h4⟩
    refine ⟨rfl, ⟨⟨S', by simpa using h2, (Fr.refl S w).trans ho.size h3⟩, (ho.mono (by simp)).trans h4 (Fr.refl _ _)⟩, ?_, ?_⟩
    · exact h4.cell (World.cell?_alloc_at _ _ w.heap.size 0 rfl) hnew
    · exact h4.cell (World.cell?_alloc_at _ _ w.heap.size 1 rfl) hnew
  rcases ht with ⟨h, _⟩ | ⟨h0, gp, c, g, cap, rfl, n1, n2, n3, hp, hc, hgp, hr⟩
  · cases h
  · have c1 : w.cell? ⟨p, 0, none⟩ = some (.slice (some ⟨gp, 0, none⟩) 1 c) := by simp [World.cell?, hp]
    have c2 : w.cell? ⟨gp, 0, none⟩ = some (.slice (some ⟨g, 0, none⟩) (r.length + 1) cap) := by simp [World.cell?, hgp]
    have c3 : w.cell? ⟨p, 1, none⟩ = some (.int .i64 ((r.length : Int) + 1)) := by simp [World.cell?, hp]
    have c4 : w.cell? ⟨g, 0, none⟩ = some (.int .i64 k) := hr.cell rfl
    have c5 : w.cell? ⟨g, 1, none⟩ = some (.string v) := hr.cell rfl
    obtain ⟨n, hn⟩ : ∃ n, n = r.length := ⟨_, rfl⟩
    rw [← hn] at c2 c3 h1
    have t1 : ¬ ((n : Int) + 1 = 0) := by omega
    have t2 : (0 : Int) < (n : Int) + 1 := by omega
    have t3 : 0 < n + 1 := by omega
    clear h0 n1 n2 n3 hp hc hgp hr hn
    go_enter Try.func15, Try.ntmps15
    go_wp2_with fail
    refine HD.out.mono ?_
    rintro e w1 ⟨rfl, h2, h3, h4⟩
    have H2 := Lib.hid h2
    clear h2 c1 c2 c3 c4 c5 HD
    go_wp2
    go_quiet (fail)
    go_wp2
    go_ret3
    exact ⟨rfl, H2.out.1, H2.out.2.drewN _⟩

set_option maxHeartbeats 1000000 in
theorem Has_any (p : Nat) (S : List Nat) (L : List (Int × ByteArray)) (k : Int) (w : World) (ht : Tab_is p S L w) (hs : Srt L) (h1 : L.length ≤ 1000) :
    Calls Try.prog 34 #[.pointer (some ⟨p, 0, none⟩), (Value.int .i64 k)] w fun e w' => e = .returned (.bool (hasK k L)) ∧ Oth [] w w' := by
  have HF := Lib.hid (find_any_is p S L k w ht (fun _ _ => trivial) trivial hs h1)
  clear ht hs h1
  go_enter Try.func34, Try.ntmps34
  go_wp2_with fail
  refine HF.out.mono ?_
  rintro e w1 ⟨rfl, ho⟩
  go_wp2
  go_ret
  exact ⟨rfl, ho⟩

/-- The entries after Del. -/
def outK (k : Int) (L : List (Int × ByteArray)) : List (Int × ByteArray) := if hasK k L then L.take (idx k L) ++ L.drop (idx k L + 1) else L

set_option maxHeartbeats 1000000 in
theorem Del_any (p : Nat) (S : List Nat) (L : List (Int × ByteArray)) (k : Int) (w : World) (ht : Tab_is p S L w) (hs : Srt L) (h1 : L.length ≤ 1000) :
    Calls Try.prog 35 #[.pointer (some ⟨p, 0, none⟩), (Value.int .i64 k)] w fun e w' => e = .returned (.tuple #[(Value.string (getK ⟨#[]⟩ k L)), .bool (hasK k L)]) ∧ (∃ S', Tab_is p S' (outK k L) w' ∧ Fr S w S') ∧ Oth S w w' := by
  have HF := Lib.hid (find_any_is p S L k w ht (fun _ _ => trivial) trivial hs h1)
  cases hh : hasK k L with
  | false =>
    have hg : getK ⟨#[]⟩ k L = ⟨#[]⟩ := getK_no hh
    have ho' : outK k L = L := by unfold outK; rw [hh]; rfl
    rw [hg, ho']
    rw [hh] at HF
    have HT := Lib.hid ht
    clear hh hg ht hs h1 ho'
    go_enter Try.func35, Try.ntmps35
    go_wp2_with fail
    refine HF.out.mono ?_
    rintro e w1 ⟨rfl, ho⟩
    go_wp2
    go_ret2
    exact ⟨rfl, ⟨S, HT.out.oth ho (by simp), Fr.refl _ _⟩, ho.mono (by simp)⟩
  | true =>
    obtain ⟨v, hv⟩ := hasK_at hh
    have hg : getK ⟨#[]⟩ k L = v := getK_at hv
    have ho' : outK k L = L.take (idx k L) ++ L.drop (idx k L + 1) := by unfold outK; rw [hh]; rfl
    rw [hg, ho']
    rw [hh] at HF
    have hi : idx k L < L.length := (List.getElem?_eq_some_iff.1 hv).1
    have HD : ∀ w1, Oth [] w w1 → Hid (Calls Try.prog 32 #[.pointer (some ⟨p, 0, none⟩), .int .i64 0, .int .i64 (idx k L)] w1 fun e w' => e = .returned (.tuple #[]) ∧ (∃ S', Tab_is p S' (L.take (idx k L) ++ L.drop (idx k L + 1)) w' ∧ Fr S w S') ∧ Oth S w w') := fun w1 ho => by
      refine (drop_any p S L (idx k L) w1 (ht.oth ho (by simp)) hi h1).mono ?_
      rintro e w' ⟨rfl, ⟨S', h2, h3⟩, h4⟩
      exact ⟨rfl, ⟨S', h2, (Fr.refl S w).trans ho.size h3⟩, (ho.mono (by simp)).trans h4 (Fr.refl _ _)⟩
    rcases ht with ⟨rfl, rfl, b, c, hp⟩ | ⟨h0, gp, c, g, cap, rfl, n1, n2, n3, hp, hc, hgp, hr⟩
    · simp at hi
    · have c1 : w.cell? ⟨p, 0, none⟩ = some (.slice (some ⟨gp, 0, none⟩) 1 c) := by simp [World.cell?, hp]
      have c2 : w.cell? ⟨gp, 0, none⟩ = some (.slice (some ⟨g, 0, none⟩) L.length cap) := by simp [World.cell?, hgp]
      have c3 : w.cell? ⟨g, idx k L * 2 + 1, none⟩ = some (Value.string v) := hr.cell (ecs_val L _ k v hv)
      obtain ⟨n, hn⟩ : ∃ n, n = L.length := ⟨_, rfl⟩
      obtain ⟨x, hx⟩ : ∃ x, x = idx k L := ⟨_, rfl⟩
      rw [← hn] at hi c2 h1
      rw [← hx] at hi c3 HF HD ⊢
      have t1 : (x : Int) < (n : Int) := by omega
      obtain ⟨M, hM⟩ : ∃ M, M = L.take x ++ L.drop (x + 1) := ⟨_, rfl⟩
      rw [← hM] at HD ⊢
      clear hh hg hs hp hgp hr hv n1 n2 n3 hx hn h0 hM ho'
      go_enter Try.func35, Try.ntmps35
      go_wp2_with fail
      refine HF.out.mono ?_
      rintro e w1 ⟨rfl, ho⟩
      have d1 := ho.cell c1 (by simp)
      have d2 := ho.cell c2 (by simp)
      have d3 := ho.cell c3 (by simp)
      have HD1 := HD w1 ho
      clear HD
      go_wp2_with fail
      refine HD1.out.mono ?_
      rintro e w2 ⟨rfl, h2, h3⟩
      have H2 := Lib.hid h2
      clear h2 HD1 HF d1 d2 d3 c1 c2 c3
      go_wp2
      go_ret2
      exact ⟨rfl, H2.out, h3⟩
end Go.Proofs.Ytbjfojdhdjehpaa
