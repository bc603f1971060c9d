/- The walk of drop: an entry is taken out. Condition: at most 1000 entries. -/
import Derived.Test.YtbjfojdhdjehpaaTl
namespace Go.Proofs.Ytbjfojdhdjehpaa
open Go.RowKit
set_option linter.unusedVariables false
set_option linter.unusedSimpArgs false

set_option maxHeartbeats 4000000 in
set_option maxRecDepth 100000 in
theorem drop_any (p : Nat) (S : List Nat) (L : List (Int × ByteArray)) (i : Nat) (w : World) (ht : Tab_is p S L w) (hi : i < L.length) (h1 : L.length ≤ 1000) :
    Calls Try.prog 32 #[.pointer (some ⟨p, 0, none⟩), .int .i64 0, .int .i64 i] w fun e w' => e = .returned (.tuple #[]) ∧ (∃ S', Tab_is p S' (L.take i ++ L.drop (i + 1)) w' ∧ Fr S w S') ∧ Oth S w w' := by
  rcases ht with ⟨rfl, rfl, b, c, hp⟩ | ⟨h0, gp, c, g, cap, rfl, n1, n2, n3, hp, hc, hgp, hr⟩
  · simp at hi
  · obtain ⟨m, hm⟩ : ∃ m, L.length = i + 1 + m := ⟨L.length - (i + 1), by omega⟩
    obtain ⟨n, hn⟩ : ∃ n, n = L.length := ⟨_, rfl⟩
    rw [← hn] at hp hgp hr hm h1
    have c1 : w.cell? ⟨p, 0, none⟩ = some (.slice (some ⟨gp, 0, none⟩) 1 c) := by simp [World.cell?, hp]
    have c2 : w.cell? ⟨gp, 0, none⟩ = some (.slice (some ⟨g, 0, none⟩) n cap) := by simp [World.cell?, hgp]
    have HD : Hid (Calls Try.prog 54 #[.slice (some ⟨g, 0, none⟩) n cap, .int .i64 i, .int .i64 ((i : Int) + 1)] w fun e w' => e = .returned (.slice (some ⟨g, 0, none⟩) (i + m) cap) ∧ Row 71 2 g (i + m) cap (ent_is (L.take i ++ L.drop (i + 1))) w' ∧ Oth [g] w w') := by
      refine (delete_ent g n cap i m (ent_is L) w hr (ecs_one (fun _ => rfl) (fun _ => rfl) L) hm h1).mono ?_
      rintro e w' ⟨rfl, rfl⟩
      refine ⟨rfl, ?_, (((Oth.refl [g] w).drew).setCells (.inl (by simp)) _ _).setCells (.inl (by simp)) _ _⟩
      have := row_del hr hm (.int .i64 0) (.string ⟨#[]⟩)
      unfold ent_is at this ⊢
      rw [ecs_append, ← ecs_take, ← ecs_drop]; exact this
    have HP := Lib.hid hp
    have HGP := Lib.hid hgp
    have N1 := Lib.hid n1
    have N2 := Lib.hid n2
    have N3 := Lib.hid n3
    have HL : Hid ((L.take i ++ L.drop (i + 1)).length = i + m) := by show _ = _; simp; omega
    have HM := Lib.hid hm
    have c3 : w.cell? ⟨p, 1, none⟩ = some (.int .i64 n) := by simp [World.cell?, hp]
    obtain ⟨M, hM⟩ : ∃ M, M = L.take i ++ L.drop (i + 1) := ⟨_, rfl⟩
    rw [← hM] at HD HL ⊢
    have HC := Lib.hid hc
    have hib : i ≤ 1000 := by omega
    have hmb : m ≤ 1000 := by omega
    clear hp hgp hr n1 n2 n3 hm hn hM hi h0 hc
    go_enter Try.func32, Try.ntmps32
    go_wp2_with fail
    refine HD.out.mono ?_
    rintro e w1 ⟨rfl, hr1, ho1⟩
    have hp1 := ho1.heap HP.out (by simpa using N2.out)
    have hgp1 := ho1.heap HGP.out (by simpa using N3.out)
    have d1 : w1.cell? ⟨p, 0, none⟩ = some (.slice (some ⟨gp, 0, none⟩) 1 c) := by simp [World.cell?, hp1]
    have d2 : w1.cell? ⟨gp, 0, none⟩ = some (.slice (some ⟨g, 0, none⟩) n cap) := by simp [World.cell?, hgp1]
    have d3 : w1.frozen? ⟨gp, 0, none⟩ = false := by simp [World.frozen?, hgp1]
    have d4 : w1.frozen? ⟨p, 1, none⟩ = false := by simp [World.frozen?, hp1]
    have d5 : w1.frozen? ⟨p, 0, none⟩ = false := by simp [World.frozen?, hp1]
    have hgp2 := one_set0 (u := .slice (some ⟨g, 0, none⟩) (i + m) cap) hgp1
    have hp2 := heap_other hp1 (a := ⟨gp, 0, none⟩) N1.out (.slice (some ⟨g, 0, none⟩) (i + m) cap)
    have hr2 := hr1.other (a := ⟨gp, 0, none⟩) N3.out.symm (.slice (some ⟨g, 0, none⟩) (i + m) cap)
    have ho2 : Oth [p, gp, g] w (w1.setCell ⟨gp, 0, none⟩ (.slice (some ⟨g, 0, none⟩) (i + m) cap)) := (ho1.mono (by simp)).setCell (.inl (by simp)) _
    obtain ⟨W, hW⟩ : ∃ W, W = w1.setCell ⟨gp, 0, none⟩ (.slice (some ⟨g, 0, none⟩) (i + m) cap) := ⟨_, rfl⟩
    rw [← hW] at hgp2 hp2 hr2 ho2
    by_cases hz : i + m = 0
    · obtain rfl : i = 0 := by omega
      obtain rfl : m = 0 := by omega
      have hn1 : n = 1 := by have := HM.out; omega
      have e1 : W.cell? ⟨p, 0, none⟩ = some (.slice (some ⟨gp, 0, none⟩) 1 c) := by simp [World.cell?, hp2]
      have HDP := Lib.hid (delete_part gp c _ W hgp2 HC.out.1 HC.out.2)
      have HP2 := Lib.hid hp2
      have HO2 := Lib.hid ho2
      have HW := Lib.hid hW
      have HN1 := Lib.hid hn1
      rw [hW] at e1
      clear hr1 ho1 hp1 hgp1 hgp2 hp2 hr2 ho2 hW hz hn1
      go_wp2_with fail
      rw [show (0 : Nat) + 0 = 0 from rfl] at HW
      rw [← HW.out]
      refine HDP.out.mono ?_
      rintro e w2 ⟨rfl, ho3⟩
      have hp3 := ho3.heap HP2.out (by simpa using N1.out)
      rw [HN1.out] at hp3
      have hp4 := two_set0 (u := .slice (some ⟨gp, 0, none⟩) 0 c) hp3
      have hp5 := two_set1 (u := .int .i64 0) hp4
      have ho4 : Oth [p, gp, g] w w2 := HO2.out.trans ho3 (fun k hk => by simp at hk; subst hk; exact .inl (by simp))
      have ho5 := (ho4.setCell (p := ⟨p, 0, none⟩) (.inl (by simp)) (.slice (some ⟨gp, 0, none⟩) 0 c)).setCell (p := ⟨p, 1, none⟩) (.inl (by simp)) (.int .i64 0)
      have q1 : w2.cell? ⟨p, 0, none⟩ = some (.slice (some ⟨gp, 0, none⟩) 1 c) := by simp [World.cell?, hp3]
      have q2 : w2.cell? ⟨p, 1, none⟩ = some (.int .i64 1) := by simp [World.cell?, hp3]
      have q3 : w2.frozen? ⟨p, 0, none⟩ = false := by simp [World.frozen?, hp3]
      have q4 : w2.frozen? ⟨p, 1, none⟩ = false := by simp [World.frozen?, hp3]
      have HFIN : Hid ((∃ S', Tab_is p S' M ((w2.setCell ⟨p, 0, none⟩ (.slice (some ⟨gp, 0, none⟩) 0 c)).setCell ⟨p, 1, none⟩ (.int .i64 0)) ∧ Fr [p, gp, g] w S') ∧ Oth [p, gp, g] w ((w2.setCell ⟨p, 0, none⟩ (.slice (some ⟨gp, 0, none⟩) 0 c)).setCell ⟨p, 1, none⟩ (.int .i64 0))) := by
        refine ⟨⟨[p], .inl ⟨?_, rfl, _, c, hp5⟩, fun k hk => .inl (by simp at hk; simp [hk])⟩, ho5⟩
        exact List.eq_nil_of_length_eq_zero HL.out
      clear ho3 hp3 hp4 hp5 ho4 ho5 HDP HP2 HO2 e1 HD d1 d2 d3 d4 d5 c1 c2 c3
      go_wp2
      go_end0
      exact ⟨rfl, HFIN.out⟩
    · have t1 : ¬ ((i : Int) + (m : Int) = 0) := by omega
      have e1 : W.cell? ⟨p, 1, none⟩ = some (.int .i64 n) := by simp [World.cell?, hp2]
      have e2 : W.frozen? ⟨p, 1, none⟩ = false := by simp [World.frozen?, hp2]
      have HFIN : Hid ((∃ S', Tab_is p S' M (W.setCell ⟨p, 1, none⟩ (.int .i64 ((n : Int) - 1))) ∧ Fr [p, gp, g] w S') ∧ Oth [p, gp, g] w (W.setCell ⟨p, 1, none⟩ (.int .i64 ((n : Int) - 1)))) := by
        refine ⟨⟨[p, gp, g], .inr ⟨by rw [HL.out]; omega, gp, c, g, cap, rfl, N1.out, N2.out, N3.out, ?_, HC.out, ?_, ?_⟩, Fr.refl _ _⟩, ho2.setCell (.inl (by simp)) _⟩
        · rw [HL.out, two_set1 hp2, show ((i + m : Nat) : Int) = (n : Int) - 1 by have := HM.out; omega]
        · rw [HL.out]; exact heap_other hgp2 N1.out.symm _
        · rw [HL.out]; exact hr2.other N2.out.symm _
      rw [hW] at e1 e2 HFIN
      clear hr1 ho1 hp1 hgp1 hgp2 hp2 hr2 ho2 hW hz
      go_wp2
      go_end0
      exact ⟨rfl, HFIN.out⟩
end Go.Proofs.Ytbjfojdhdjehpaa
