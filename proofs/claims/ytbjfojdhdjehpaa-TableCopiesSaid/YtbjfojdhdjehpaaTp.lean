/- The walks of the reference's Set, Find and Sorted. Condition: at most 1000 pairs. -/
import Derived.Test.YtbjfojdhdjehpaaTo
namespace Go.Proofs.Ytbjfojdhdjehpaa
open Go.RowKit
set_option linter.unusedVariables false
set_option linter.unusedSimpArgs false

set_option maxHeartbeats 4000000 in
set_option maxRecDepth 100000 in
theorem Set_own (v : Value) (x : List (Int × ByteArray)) (B : List Nat) (k : Int) (s : ByteArray) (w : World) (hv : RP v x B w) (h1 : x.length ≤ 1000) :
    Calls Try.prog 13 #[v, .int .i64 k, .string s] w fun e w' => ∃ v', e = .returned v' ∧ w'.ownsRow w.heap.size 43 2 v' (setP k s x).length (ent_is (setP k s x)) ∧ Oth [] w w' := by
  obtain ⟨i0, hi, hz0, hz1, hz2⟩ := info_parts Try.info43
  have HD := Lib.hid (Del_own v x B k w hv h1)
  have hdl : (delP k x).length ≤ 1000 := by have := len_delP k x; omega
  unfold setP
  obtain ⟨D, hD⟩ : ∃ D, D = delP k x := ⟨_, rfl⟩
  rw [← hD] at HD hdl ⊢
  have HL : Hid ((D ++ [(k, s)]).length = D.length + 1) := by simp [Hid]
  have HE : Hid (ent_is (D ++ [(k, s)]) = ent_is D ++ [.int .i64 k, .string s]) := by
    unfold ent_is; show _ = _; rw [ecs_append]; rfl
  rw [HL.out, HE.out]
  obtain ⟨d, hd⟩ : ∃ d, d = D.length := ⟨_, rfl⟩
  rw [← hd] at HD hdl ⊢
  clear hD hv h1 hd HL HE
  go_enter Try.func13, Try.ntmps13
  go_wp2_with fail
  refine HD.out.mono ?_
  rintro e w1 ⟨v1, rfl, hown, ho⟩
  have hsz := ho.size
  have HOWN := Lib.hid hown
  clear hown
  go_wp2_with (at_builtin; refine wpList_append_own _ rfl _ _ 36 rfl w.heap.size 43 i0 _ 2 24 Try.underlying36 hi hz0 hz1 hz2 rfl (by decide) _ _ _ rfl (HOWN.out.alloc _) ⟨w1.heap.size, 0, none⟩ 1 1 [.int .i64 k, .string s] rfl rfl ?c1 ?c2 ?c3 ?c4 ?c5 ?_)
  case c1 =>
    intro j u hu
    match j with
    | 0 => simp at hu; subst hu; rw [Addr.add_lit]; exact (World.cell?_alloc_at _ _ w1.heap.size 0 rfl)
    | 1 => simp at hu; subst hu; rw [Addr.add_lit]; exact (World.cell?_alloc_at _ _ w1.heap.size 1 rfl)
    | j + 2 => simp at hu
  case c2 => intro u hu; simp at hu; rcases hu with rfl | rfl <;> rfl
  case c3 => unfold maxLen; omega
  case c4 => omega
  case c5 => simp; omega
  intro v' w2 hown2 hgrow2 _
  have ho2 : Oth [] w w2 := (ho.alloc _).grown hgrow2 (fun k hk => by have := HOWN.out.lt k hk; exact .inr this.1)
  have H2 := Lib.hid hown2
  clear hown2 hgrow2
  go_wp2
  go_ret
  exact ⟨_, rfl, H2.out, ho2⟩

/-- What Find returns. -/
def FoundP (k : Int) (x : List (Int × ByteArray)) (z : Int) : Prop := (z = -1 ∧ ∀ p ∈ x, p.1 ≠ k) ∨ ∃ (i : Nat) (s : ByteArray), z = i ∧ x[i]? = some (k, s)

set_option maxHeartbeats 4000000 in
set_option maxRecDepth 100000 in
theorem Find_own (v : Value) (x : List (Int × ByteArray)) (B : List Nat) (k : Int) (w : World) (hv : RP v x B w) (h1 : x.length ≤ 1000) :
    Calls Try.prog 33 #[v, .int .i64 k] w fun e w' => (∃ z, e = .returned (.int .i64 z) ∧ FoundP k x z) ∧ w = w' := by
  obtain ⟨b, cap, rfl, hc⟩ := hv
  obtain ⟨n, hn⟩ : ∃ n, n = x.length := ⟨_, rfl⟩
  rw [← hn] at h1 ⊢
  have HN := Lib.hid hn
  have HC := Lib.hid hc
  clear hn hc
  go_enter Try.func33, Try.ntmps33
  go_wp2
  go_loop [5] (fun j => ∃ i : Nat, i ≤ n ∧ j = .int .i64 i ∧ Hid (∀ t p, t < i → x[t]? = some p → p.1 ≠ k)) (fun j => (n - intOf j).toNat)
  case atStart => exact ⟨0, by omega, rfl, fun t p h => by omega⟩
  case round =>
    obtain ⟨i, hin, rfl, hno⟩ := hrel
    by_cases hlt : i < n
    · have t1 : (i : Int) < (n : Int) := by omega
      obtain ⟨⟨a, s⟩, hav⟩ : ∃ p, x[i]? = some p := ⟨_, List.getElem?_eq_getElem (by have := HN.out; omega)⟩
      obtain ⟨g, rfl, hg, c1, c2⟩ := HC.out i a s hav
      have HAV := Lib.hid hav
      clear hav
      by_cases hak : a = k
      · subst hak
        go_wp2_with fail
        go_ret
        exact ⟨⟨i, rfl, .inr ⟨i, s, rfl, HAV.out⟩⟩, rfl⟩
      · go_wp2_with fail
        go_round
        case rel =>
          refine ⟨i + 1, by omega, by go_num, fun t p ht hp => ?_⟩
          rcases Nat.lt_or_ge t i with h | h
          · exact hno.out t p h hp
          · obtain rfl : t = i := by omega
            rw [HAV.out] at hp
            cases hp; exact hak
        case measure => simp [intOf]; omega
    · obtain rfl : i = n := by omega
      have t1 : ¬ (i : Int) < (i : Int) := by omega
      go_wp2
      go_ret
      refine ⟨⟨-1, rfl, .inl ⟨rfl, fun p hp => ?_⟩⟩, rfl⟩
      obtain ⟨t, ht⟩ := List.mem_iff_getElem?.1 hp
      exact hno.out t p (by have := (List.getElem?_eq_some_iff.1 ht).1; have := HN.out; omega) ht

theorem owns_oth {w w' : World} {B : Nat} {e : TypeId} {z n : Nat} {v : Value} {xs : List Value} {S : List Nat} (h : w.ownsRow B e z v n xs) (ho : Oth S w w') (hd : ∀ k, v.ownBlock = some k → k ∉ S) : w'.ownsRow B e z v n xs := by
  obtain ⟨hl, h | ⟨g, cap, cur, rfl, hg, hh, r⟩⟩ := h
  · exact ⟨hl, .inl h⟩
  · exact ⟨hl, .inr ⟨g, cap, cur, rfl, hg, ho.heap hh (hd g rfl), r⟩⟩

set_option maxHeartbeats 4000000 in
set_option maxRecDepth 100000 in
theorem Sorted_own (v : Value) (x L : List (Int × ByteArray)) (B : List Nat) (w : World) (hv : RP v x B w) (hB : ∀ k, k ∈ B → k < w.heap.size) (hl : Like x L) (h1 : x.length ≤ 1000) :
    Calls Try.prog 14 #[v] w fun e w' => ∃ v', e = .returned v' ∧ w'.ownsRow w.heap.size 43 2 v' L.length (ent_is L) ∧ Oth [] w w' := by
  obtain ⟨i0, hi, hz0, hz1, hz2⟩ := info_parts Try.info43
  have HV := Lib.hid hv
  have HB := Lib.hid hB
  have HL := Lib.hid hl
  clear hv hB hl
  go_enter Try.func14, Try.ntmps14
  go_wp2
  go_loopw [0, 3] (fun u o wr => ∃ (j m : Nat) (b : Option Addr) (cap : Nat), j + m = L.length ∧ m ≤ 1000 ∧ u = .slice b m cap ∧ Hid (∃ y B', m = y.length ∧ RP u y B' wr ∧ (∀ k, k ∈ B' → o.ownBlock ≠ some k ∧ k < wr.heap.size) ∧ Like y (L.drop j)) ∧ Hid (wr.ownsRow w.heap.size 43 2 o j (ent_is (L.take j))) ∧ Oth [] w wr) (fun u _ _ => match u with | .slice _ m _ => m | _ => 0)
  case atStart =>
    have hv := HV.out
    obtain ⟨b, cap, rfl, hc⟩ := hv
    exact ⟨0, x.length, b, cap, by rw [HL.out.len]; omega, h1, rfl, ⟨x, B, rfl, HV.out, fun k hk => ⟨by simp [Value.ownBlock], HB.out k hk⟩, HL.out⟩, World.ownsRow_nil _ _ _ _, Oth.refl _ _⟩
  case round =>
    obtain ⟨j, m, b, cap, hjm, hm, rfl, hy, hown, ho⟩ := hrel
    by_cases hlt : 0 < m
    · have t1 : (0 : Int) < (m : Int) := by omega
      obtain ⟨y, B', HY, hrp, hB', hlk⟩ := hy.out
      have HLK := Lib.hid hlk
      have HRP := Lib.hid hrp
      have HYB := Lib.hid hB'
      obtain ⟨_, _, he, hc⟩ := hrp
      injection he with e1 e2 e3
      subst e1
      subst e3
      have HC := Lib.hid hc
      have HYL := Lib.hid HY
      clear hy hlk hB' hc HY e2
      go_wp2_with fail
      go_loopw [4, 5] (fun be q wq => ∃ (bi i : Nat), 1 ≤ i ∧ i ≤ m ∧ bi < m ∧ q = .int .i64 i ∧ be = .int .i64 bi ∧ Hid (∃ p, y[bi]? = some p ∧ ∀ t p', t < i → y[t]? = some p' → p.1 ≤ p'.1) ∧ Oth [] wr wq) (fun _ q _ => (m - intOf q).toNat)
      case atStart =>
        obtain ⟨p, hp⟩ : ∃ p, y[0]? = some p := ⟨_, List.getElem?_eq_getElem (by have := HYL.out; omega)⟩
        refine ⟨0, 1, by omega, by omega, hlt, rfl, rfl, ⟨p, hp, fun t p' ht hp' => ?_⟩, Oth.refl _ _⟩
        obtain rfl : t = 0 := by omega
        rw [hp] at hp'; cases hp'; exact Int.le_refl _
      case round =>
        obtain ⟨bi, i, hi1, him, hbi, rfl, rfl, hbest, hoq⟩ := hrel
        have hbest' := hbest.out
        obtain ⟨⟨bk, bs⟩, hbp, hbm⟩ := hbest'
        obtain ⟨g, rfl, hg, c1', c2'⟩ := HC.out bi bk bs hbp
        have c1 := hoq.cell c1' (by simp)
        have c2 := hoq.cell c2' (by simp)
        clear c1' c2'
        have HBP := Lib.hid hbp
        have HBM := Lib.hid hbm
        clear hbp hbm hbest
        by_cases hit : i < m
        · have t2 : (i : Int) < (m : Int) := by omega
          obtain ⟨⟨ak, sa⟩, hap⟩ : ∃ p, y[i]? = some p := ⟨_, List.getElem?_eq_getElem (by have := HYL.out; omega)⟩
          obtain ⟨g2, he2, hg2, c3', c4'⟩ := HC.out i ak sa hap
          cases he2
          have c3 := hoq.cell c3' (by simp)
          have c4 := hoq.cell c4' (by simp)
          clear c3' c4'
          have HAP := Lib.hid hap
          have t3 : (bi : Int) < (m : Int) := by omega
          clear hap
          by_cases hak : ak < bk
          · go_wp2_with fail
            go_quiet (fail)
            go_wp2_with fail
            go_roundw
            case rel =>
              refine ⟨i, i + 1, by omega, by omega, hit, by go_num, rfl, ⟨(ak, sa), HAP.out, fun t p' ht hp' => ?_⟩, hoq.drewN _⟩
              rcases Nat.lt_or_ge t i with h | h
              · have := HBM.out t p' h hp'; simp only at this ⊢; omega
              · obtain rfl : t = i := by omega
                rw [HAP.out] at hp'; cases hp'; exact Int.le_refl _
            case measure => simp [intOf]; omega
          · go_wp2_with fail
            go_quiet (fail)
            go_wp2_with fail
            go_roundw
            case rel =>
              refine ⟨bi, i + 1, by omega, by omega, hbi, by go_num, rfl, ⟨(bk, bs), HBP.out, fun t p' ht hp' => ?_⟩, hoq.drewN _⟩
              rcases Nat.lt_or_ge t i with h | h
              · exact HBM.out t p' h hp'
              · obtain rfl : t = i := by omega
                rw [HAP.out] at hp'; cases hp'; simp only; omega
            case measure => simp [intOf]; omega
        · obtain rfl : i = m := by omega
          have t2 : ¬ (i : Int) < (i : Int) := by omega
          have t3 : (bi : Int) < (i : Int) := by omega
          have how := ho.trans hoq (Fr.nil _ _)
          have hownq := Lib.hid (owns_oth hown.out hoq (by simp))
          have HRPQ := Lib.hid (HRP.out.oth hoq (by simp))
          clear ho hown HC
          have hsz := how.size
          have hjl : j < L.length := by omega
          have HD : Hid (L.drop j = (bk, bs) :: L.drop (j + 1)) := by
            show _ = _
            rw [List.drop_eq_getElem_cons hjl]
            have h5 := HLK.out
            rw [List.drop_eq_getElem_cons hjl] at h5
            have := h5.least HBP.out (fun q hq => by
              obtain ⟨t, ht⟩ := List.mem_iff_getElem?.1 hq
              exact HBM.out t q (by have := (List.getElem?_eq_some_iff.1 ht).1; have := HYL.out; omega) ht)
            rw [this]
          have hj1000 : j ≤ 1000 := by have := HL.out.len; omega
          go_wp2_with (at_builtin; refine wpList_append_own _ rfl _ _ 36 rfl w.heap.size 43 i0 _ 2 24 Try.underlying36 hi hz0 hz1 hz2 rfl (by decide) _ _ _ rfl (hownq.out.alloc _) ⟨wr.heap.size, 0, none⟩ 1 1 [.int .i64 bk, .string bs] rfl rfl ?q1 ?q2 ?q3 ?q4 ?q5 ?_)
          case q2 => exact ⟨rfl, rfl⟩
          case q3 => unfold maxLen; omega
          case q4 => omega
          case q5 => omega
          intro v' w1 hown1 hgrow1 _
          have ho1 : Oth [] w w1 := (how.alloc _).grown hgrow1 (fun k hk => by have := hownq.out.lt k hk; exact .inr this.1)
          have HO1 : Hid (w1.ownsRow w.heap.size 43 2 v' (j + 1) (ent_is (L.take (j + 1)))) := by
            have hd := HD.out
            rw [List.drop_eq_getElem_cons hjl] at hd
            injection hd with hd1 hd2
            have : L.take (j + 1) = L.take j ++ [(bk, bs)] := by rw [List.take_add_one, List.getElem?_eq_getElem hjl, hd1]; rfl
            rw [this]
            unfold ent_is
            rw [ecs_append]; exact hown1
          have hrp1 : RP (.slice (some ⟨g, 0, none⟩) i cap) y B' w1 := by
            refine HRPQ.out.oth (S := (Value.ownBlock u3).toList) (((Oth.refl _ wr).alloc _).grown hgrow1 (fun k hk => .inl (by rw [hk]; simp))) (fun k hk h => ?_)
            have := (HYB.out k hk).1
            cases hq : u3.ownBlock with
            | none => rw [hq] at h; simp at h
            | some q => rw [hq] at h this; simp at h; subst h; exact this rfl
          have d1 : w1.cell? ⟨g, bi * 2, none⟩ = some (.int .i64 bk) := by
            obtain ⟨b', cap', he', hc'⟩ := hrp1
            obtain ⟨g', hg', _, h5, _⟩ := hc' bi bk bs HBP.out
            injection he' with e1
            rw [hg'] at e1; cases e1; exact h5
          have HDL := Lib.hid (Del_own _ y B' bk w1 hrp1 (by have := HYL.out; omega))
          have hsz1 := ho1.size
          clear hown1 hgrow1 hownq hrp1
          go_wp2_with fail
          refine HDL.out.mono ?_
          rintro e w2 ⟨v2, rfl, hown2, ho2⟩
          obtain ⟨B2, hrp2, hB2⟩ := rp_of_owns hown2
          have HR2 : Hid (∃ b2 cap2, v2 = .slice b2 (i - 1) cap2 ∧ (∃ y B', i - 1 = y.length ∧ RP v2 y B' w2 ∧ (∀ k, k ∈ B' → v'.ownBlock ≠ some k ∧ k < w2.heap.size) ∧ Like y (L.drop (j + 1)))) := by
            have hlk : Like (delP bk y) (L.drop (j + 1)) := by
              have := HLK.out
              rw [HD.out] at this
              exact this.tail
            have hlen : (delP bk y).length = i - 1 := by
              rw [hlk.len]; simp; omega
            have hrp2' := hrp2
            obtain ⟨b2, cap2, rfl, _⟩ := hrp2'
            refine ⟨b2, cap2, by rw [hlen], delP bk y, B2, hlen.symm, hrp2, fun k hk => ⟨fun h => ?_, (hB2 k hk).2⟩, hlk⟩
            have h6 := HO1.out.lt k h
            have h7 := (hB2 k hk).1
            omega
          have HO2 : Hid (w2.ownsRow w.heap.size 43 2 v' (j + 1) (ent_is (L.take (j + 1)))) := by
            exact owns_oth HO1.out ho2 (by simp)
          have ho3 := ho1.trans ho2 (Fr.nil _ _)
          clear hown2 ho2 hrp2 hB2 HO1 HDL d1
          go_wp2
          go_roundw
          case rel =>
            obtain ⟨b2, cap2, rfl, h7⟩ := HR2.out
            exact ⟨j + 1, i - 1, b2, cap2, by omega, by omega, rfl, h7, HO2, ho3⟩
          case measure =>
            obtain ⟨b2, cap2, rfl, h7⟩ := HR2.out
            simp; omega
    · obtain rfl : m = 0 := by omega
      have HF : Hid (wr.ownsRow w.heap.size 43 2 u3 L.length (ent_is L)) := by
        have := hown.out
        rw [List.take_of_length_le (by omega)] at this
        rw [show L.length = j by omega]; exact this
      clear hown hy
      go_wp2
      go_ret
      exact ⟨_, rfl, HF.out, ho⟩
end Go.Proofs.Ytbjfojdhdjehpaa
