/- The walk of gap: the first place that is wide enough. Condition: small numbers. -/
import Derived.Test.YthllilkafdgheaaAe
import Derived.Deep.RegionHeld3
namespace Go.Proofs.Ythllilkafdgheaa
open Go.RowKit
set_option linter.unusedVariables false
set_option linter.unusedSimpArgs false

theorem owns_other {w : World} {B : Nat} {e : TypeId} {z n : Nat} {v : Value} {xs : List Value} (h : w.ownsRow B e z v n xs) {a : Addr} (ha : ∀ k, v.ownBlock = some k → k ≠ a.block) (u : Value) : (w.setCell a u).ownsRow B e z v n xs :=
  owns_oth h (S := [a.block]) ((Oth.refl _ _).setCell (.inl (by simp)) u) (fun k hk => by simpa using ha k hk)
theorem MapI.other {mb : Nat} {L : List Blk} {w : World} (h : MapI mb L w) {a : Addr} (ha : mb ≠ a.block) (u : Value) : MapI mb L (w.setCell a u) :=
  h.oth (S := [a.block]) ((Oth.refl _ _).setCell (.inl (by simp)) u) (by simpa using ha)
theorem Arp.ne {p : Nat} {s : St} {cv bv : Value} {mb : Nat} {cs : List Int} {w : World} (h : Arp p s cv bv mb cs w) : mb ≠ p ∧ (∀ k, cv.ownBlock = some k → k ≠ p ∧ k ≠ mb) ∧ (∀ k, bv.ownBlock = some k → k ≠ p ∧ k ≠ mb) ∧ ∀ k, cv.ownBlock = some k → bv.ownBlock ≠ some k := by
  have := h.apart
  rw [List.nodup_cons, List.nodup_cons, List.nodup_append] at this
  obtain ⟨h1, h2, _, _, h3⟩ := this
  simp only [List.mem_cons, List.mem_append, Option.mem_toList, not_or] at h1 h2
  refine ⟨fun e => h1.1 e.symm, fun k hk => ⟨fun e => h1.2.1 (by rw [← e]; exact hk), fun e => h2.1 (by rw [← e]; exact hk)⟩, fun k hk => ⟨fun e => h1.2.2 (by rw [← e]; exact hk), fun e => h2.2 (by rw [← e]; exact hk)⟩, fun k hk e => ?_⟩
  exact h3 k (by simp [hk]) k (by simp [e]) rfl
/-- A store into one of the ten cells, the words' and the blocks' left alone. -/
theorem Arp.put {p : Nat} {s s' : St} {cv bv : Value} {mb : Nat} {cs : List Int} {w : World} (h : Arp p s cv bv mb cs w) (i : Nat) (u : Value) (hc : (arCells s cv bv mb).setIfInBounds i u = arCells s' cv bv mb) (hL : s'.L = s.L) (hh : s'.high = s.high) :
    Arp p s' cv bv mb cs (w.setCell ⟨p, i, none⟩ u) := by
  obtain ⟨n1, n2, n3, n4⟩ := h.ne
  refine ⟨by simp [World.setCell, Array.getElem?_modify, h.obj, hc], ?_, ?_, ?_, h.apart, by rw [hL]; exact h.data⟩
  · rw [hh]; exact owns_other h.cells (fun k hk => (n2 k hk).1) u
  · rw [hL]; exact owns_other h.blocks (fun k hk => (n3 k hk).1) u
  · rw [hL]; exact h.map.other n1 u

/-- What gap finds. -/
structure GapR (s : St) (words k i : Nat) (ok : Bool) : Prop where
  le1 : s.packed ≤ k
  le2 : k ≤ i
  le3 : i ≤ s.L.length
  tight : ∀ j x, s.packed ≤ j → j < k → s.L[j]? = some x → x.f = E s.L j
  small : ∀ j x, k ≤ j → j < i → s.L[j]? = some x → (x.f : Int) - E s.L j < words
  here : ∀ x, s.L[i]? = some x → ok = true ∧ (words : Int) ≤ (x.f : Int) - E s.L i
  last : i = s.L.length → (ok = true ↔ (words : Int) ≤ (s.cap : Int) - E s.L i)
def Gapped (p : Nat) (S : List Nat) (s : St) (words : Nat) (w : World) (e : Ending) (w' : World) : Prop :=
  ∃ k i ok, e = .returned (.tuple #[.int .i64 (i : Nat), .bool ok]) ∧ GapR s words k i ok ∧ Ar p S { s with packed := k } w' ∧ Oth S w w'

theorem E_le {L : List Blk} (h : ∀ b, b ∈ L → b.f ≤ 16777216 ∧ b.n ≤ 16777216) (i : Nat) : E L i ≤ 33554432 := by
  cases i with
  | zero => simp [E]
  | succ j =>
    simp only [E]
    cases hq : L[j]? with
    | none => simp
    | some b => have := h b (List.mem_of_getElem? hq); simp only; omega

set_option maxHeartbeats 4000000 in
set_option maxRecDepth 100000 in
theorem gap_any (p : Nat) (S : List Nat) (s : St) (words : Nat) (w : World) (h : Ar p S s w) (hs : Sm s) (hw : words ≤ 16777216) :
    Calls Try.prog 26 #[.pointer (some ⟨p, 0, none⟩), .int .i64 words] w fun e w' => Gapped p S s words w e w' := by
  have HH := Lib.hid h
  have HS := Lib.hid hs
  have hE : ∀ i, E s.L i ≤ 33554432 := E_le (fun b hb => ⟨(hs.2.2.1 b hb).2.1, (hs.2.2.1 b hb).2.2⟩)
  have HE := Lib.hid hE
  have hpk := hs.2.2.2
  have hln := hs.2.1
  obtain ⟨n, hn⟩ : ∃ n, n = s.L.length := ⟨_, rfl⟩
  rw [← hn] at hpk hln
  have HN := Lib.hid hn
  clear h hs hE hn
  go_enter Try.func26, Try.ntmps26
  go_wp2_with fail
  go_loopw [] (fun wr => ∃ k : Nat, s.packed ≤ k ∧ k ≤ n ∧ Hid (∀ j x, s.packed ≤ j → j < k → s.L[j]? = some x → x.f = E s.L j) ∧ Hid (Ar p S { s with packed := k } wr) ∧ Oth S w wr) (fun wr => (n - intOf ((wr.cell? ⟨p, 4, none⟩).getD undef)).toNat)
  case atStart => exact ⟨s.packed, Nat.le_refl _, hpk, fun j x h1 h2 => by omega, HH.out, Oth.refl _ _⟩
  case round =>
    obtain ⟨k, hk1, hk2, hti, har, ho⟩ := hrel
    have har' := har.out
    obtain ⟨cv, bv, mb, cs, hS, ha⟩ := har'
    obtain ⟨b, cap, rfl, hc⟩ := owns_blocks ha.blocks
    have c4 : wr.cell? ⟨p, 4, none⟩ = some (.int .i64 k) := ha.cell rfl
    have c2 : wr.cell? ⟨p, 2, none⟩ = some (.slice b n cap) := by rw [HN.out]; exact ha.cell rfl
    have f4 := ha.free 4
    by_cases hlt : k < n
    · have t1 : (k : Int) < (n : Int) := by omega
      obtain ⟨x, hx⟩ : ∃ x, s.L[k]? = some x := ⟨_, List.getElem?_eq_getElem (by have := HN.out; omega)⟩
      obtain ⟨g, rfl, e1, e2, e3⟩ := hc k x hx
      have HEND : ∀ m, Hid (Calls Try.prog 28 #[.pointer (some ⟨p, 0, none⟩), .int .i64 ((k : Int) - 1)] (wr.drewN m) fun e w' => e = .returned (.int .i64 (E s.L k)) ∧ ∃ m', w' = (wr.drewN m).drewN m') := fun m =>
        end_any (s := { s with packed := k }) k (har.out.oth (T := []) ((Oth.refl _ _).drewN m) (by simp)) ⟨HS.out.1, HS.out.2.1, HS.out.2.2.1, by have := HN.out; simp only; omega⟩ (by have := HN.out; simp only; omega)
      obtain ⟨ek, hek⟩ : ∃ a, a = E s.L k := ⟨_, rfl⟩
      obtain ⟨xf, hxf⟩ : ∃ a, a = x.f := ⟨_, rfl⟩
      rw [← hek] at HEND
      rw [← hxf] at e2
      have t2 : IntKind.i64.wrap ((k : Int) - 1) = (k : Int) - 1 := by rw [IntKind.wrap_i64]; omega
      have HX := Lib.hid hx
      have HEK := Lib.hid hek
      have HXF := Lib.hid hxf
      have HA := Lib.hid ha
      have HSS := Lib.hid hS
      clear ha hc hx hek hxf hS
      by_cases hef : xf = ek
      · subst hef
        go_wp2_with fail
        go_quiet ((go_at_call 28; exact Calls.quiet_of (HEND _).out))
        obtain ⟨V, hV⟩ : ∃ V, V = wr.drewN nq := ⟨_, rfl⟩
        rw [← hV]
        have ha2 : Arp p { s with packed := k } (cv) (.slice (some ⟨g, 0, none⟩) s.L.length cap) mb cs V := by rw [hV]; exact HA.out.oth (T := []) ((Oth.refl _ _).drewN _) (by simp)
        have hoV : Oth S w V := by rw [hV]; exact ho.drewN _
        have d4 : V.cell? ⟨p, 4, none⟩ = some (.int .i64 k) := by rw [hV]; exact c4
        have f4' := ha2.free 4
        have HA3 : Hid (Ar p S { s with packed := k + 1 } (V.setCell ⟨p, 4, none⟩ (.int .i64 ((k : Int) + 1)))) :=
          ⟨_, _, _, _, HSS.out, ha2.put 4 _ (by simp [arCells]) rfl rfl⟩
        have hoV2 : Oth S w (V.setCell ⟨p, 4, none⟩ (.int .i64 ((k : Int) + 1))) := hoV.setCell (.inl (by rw [HSS.out]; simp [own4])) _
        have hcn : (V.setCell ⟨p, 4, none⟩ (.int .i64 ((k : Int) + 1))).cell? ⟨p, 4, none⟩ = some (.int .i64 ((k : Int) + 1)) := World.cell?_setCell_same' _ _ _ (by rw [d4]; rfl)
        have HCN := Lib.hid hcn
        clear hV ha2 HA hcn HEND
        go_wp2_with fail
        go_roundw
        case rel =>
          refine ⟨k + 1, by omega, by omega, fun j x h1 h2 h3 => ?_, HA3, hoV2⟩
          rcases Nat.lt_or_ge j k with h4 | h4
          · exact hti.out j x h1 h4 h3
          · obtain rfl : j = k := by omega
            rw [HX.out] at h3; cases h3
            rw [← HXF.out, HEK.out]
        case measure => rw [HCN.out, c4]; simp [intOf]; omega
      · have hefi : ¬ ((xf : Int) = (ek : Int)) := by omega
        go_wp2_with fail
        go_quiet ((go_at_call 28; exact Calls.quiet_of (HEND _).out))
        have hbq : ((xf : Int) == (ek : Int)) = false := by simpa using hefi
        simp only [hbq]
        clear HEND HA e1 e2 e3 HX HEK HXF hbq
        obtain ⟨V, hV⟩ : ∃ V, V = wr.drewN nq := ⟨_, rfl⟩
        rw [← hV]
        have HAV : Hid (Ar p S { s with packed := k } V) := by rw [hV]; exact har.out.oth (T := []) ((Oth.refl _ _).drewN _) (by simp)
        have hoV : Oth S w V := by rw [hV]; exact ho.drewN _
        have d4 : V.cell? ⟨p, 4, none⟩ = some (.int .i64 k) := by rw [hV]; exact c4
        clear hV
        go_wp2_with fail
        go_loopw [6] (fun q wq => ∃ i : Nat, k ≤ i ∧ i ≤ n ∧ q = .int .i64 i ∧ Hid (∀ j x, k ≤ j → j < i → s.L[j]? = some x → (x.f : Int) - E s.L j < words) ∧ Hid (Ar p S { s with packed := k } wq) ∧ Oth S w wq) (fun q _ => (n - intOf q).toNat)
        case atStart => exact ⟨k, Nat.le_refl _, hk2, rfl, fun j x h1 h2 => by omega, HAV, hoV⟩
        case round =>
          obtain ⟨i, hki, hin, rfl, hsm, hai, hoi⟩ := hrel
          obtain ⟨wq, hwq⟩ : ∃ wq, wq = wr := ⟨_, rfl⟩
          rw [← hwq] at hai hoi
          rw [← hwq]
          clear hwq
          have hai' := hai.out
          obtain ⟨cv2, bv2, mb2, cs2, _, ha2⟩ := hai'
          obtain ⟨b2, cap2, rfl, hc2⟩ := owns_blocks ha2.blocks
          have c22 : wq.cell? ⟨p, 2, none⟩ = some (.slice b2 n cap2) := by rw [HN.out]; exact ha2.cell rfl
          have c20 : wq.cell? ⟨p, 0, none⟩ = some (.int .i64 s.cap) := ha2.cell rfl
          have HEND : ∀ m, Hid (Calls Try.prog 28 #[.pointer (some ⟨p, 0, none⟩), .int .i64 ((i : Int) - 1)] (wq.drewN m) fun e w' => e = .returned (.int .i64 (E s.L i)) ∧ ∃ m', w' = (wq.drewN m).drewN m') := fun m =>
            end_any (s := { s with packed := k }) i (hai.out.oth (T := []) ((Oth.refl _ _).drewN m) (by simp)) ⟨HS.out.1, HS.out.2.1, HS.out.2.2.1, by have := HN.out; simp only; omega⟩ (by have := HN.out; simp only; omega)
          obtain ⟨ek, hek⟩ : ∃ a, a = E s.L i := ⟨_, rfl⟩
          have hekb : ek ≤ 33554432 := by rw [hek]; exact HE.out i
          rw [← hek] at HEND
          have HEK := Lib.hid hek
          have t2 : IntKind.i64.wrap ((i : Int) - 1) = (i : Int) - 1 := by rw [IntKind.wrap_i64]; omega
          clear hek ha2
          by_cases hit : i < n
          · have t3 : (i : Int) < (n : Int) := by omega
            obtain ⟨x, hx⟩ : ∃ x, s.L[i]? = some x := ⟨_, List.getElem?_eq_getElem (by have := HN.out; omega)⟩
            obtain ⟨g, rfl, e1, e2, e3⟩ := hc2 i x hx
            have hxb := (HS.out.2.2.1 x (List.mem_of_getElem? hx)).2.1
            obtain ⟨xf, hxf⟩ : ∃ a, a = x.f := ⟨_, rfl⟩
            rw [← hxf] at e2 hxb
            have HX := Lib.hid hx
            have HXF := Lib.hid hxf
            have t4 : IntKind.i64.wrap ((xf : Int) - (ek : Int)) = (xf : Int) - (ek : Int) := by rw [IntKind.wrap_i64]; omega
            clear hc2 hx hxf
            by_cases hfit : (words : Int) ≤ (xf : Int) - (ek : Int)
            · go_wp2_with fail
              go_quiet ((go_at_call 28; exact Calls.quiet_of (HEND _).out))
              go_wp2_with fail
              go_ret2
              refine ⟨k, i, true, rfl, ⟨hk1, hki, by have := HN.out; omega, hti.out, hsm.out, fun y hy => ⟨rfl, ?_⟩, fun he => absurd he (by have := HN.out; omega)⟩, hai.out.oth (T := []) ((Oth.refl _ _).drewN _) (by simp), hoi.drewN _⟩
              rw [HX.out] at hy; cases hy
              rw [← HXF.out, ← HEK.out]; exact hfit
            · go_wp2_with fail
              go_quiet ((go_at_call 28; exact Calls.quiet_of (HEND _).out))
              go_wp2_with fail
              go_roundw
              case rel =>
                refine ⟨i + 1, by omega, by omega, by go_num, fun j y h1 h2 h3 => ?_, hai.out.oth (T := []) ((Oth.refl _ _).drewN _) (by simp), hoi.drewN _⟩
                rcases Nat.lt_or_ge j i with h4 | h4
                · exact hsm.out j y h1 h4 h3
                · obtain rfl : j = i := by omega
                  rw [HX.out] at h3; cases h3
                  rw [← HXF.out, ← HEK.out]; omega
              case measure => simp [intOf]; omega
          · have hin2 : i = n := by omega
            have t3 : ¬ (i : Int) < (n : Int) := by omega
            subst hin2
            have hcb : s.cap ≤ 16777216 := HS.out.1
            obtain ⟨sc, hsc⟩ : ∃ a, a = s.cap := ⟨_, rfl⟩
            rw [← hsc] at c20 hcb
            have HSC := Lib.hid hsc
            have t4 : IntKind.i64.wrap ((sc : Int) - (ek : Int)) = (sc : Int) - (ek : Int) := by rw [IntKind.wrap_i64]; omega
            clear hc2 hsc
            go_wp2_with fail
            go_quiet ((go_at_call 28; exact Calls.quiet_of (HEND _).out))
            go_wp2_with fail
            go_ret2
            refine ⟨k, i, _, rfl, ⟨hk1, hki, by have := HN.out; omega, hti.out, hsm.out, fun y hy => ?_, fun he => ?_⟩, hai.out.oth (T := []) ((Oth.refl _ _).drewN _) (by simp), hoi.drewN _⟩
            · rw [List.getElem?_eq_none (by have := HN.out; omega)] at hy; cases hy
            · rw [← HEK.out, ← HSC.out]; simp
    · have hkn : k = n := by omega
      have t1 : decide ((k : Int) < (n : Int)) = false := by simp; omega
      have HKN := Lib.hid hkn
      clear hkn
      clear hc ha
      go_wp2_with fail
      go_quiet (fail)
      obtain ⟨V, hV⟩ : ∃ V, V = wr.drewN nq := ⟨_, rfl⟩
      rw [← hV]
      have HAV : Hid (Ar p S { s with packed := k } V) := by rw [hV]; exact har.out.oth (T := []) ((Oth.refl _ _).drewN _) (by simp)
      have hoV : Oth S w V := by rw [hV]; exact ho.drewN _
      have d4 : V.cell? ⟨p, 4, none⟩ = some (.int .i64 k) := by rw [hV]; exact c4
      clear hV
      go_wp2_with fail
      go_loopw [6] (fun q wq => ∃ i : Nat, k ≤ i ∧ i ≤ n ∧ q = .int .i64 i ∧ Hid (∀ j x, k ≤ j → j < i → s.L[j]? = some x → (x.f : Int) - E s.L j < words) ∧ Hid (Ar p S { s with packed := k } wq) ∧ Oth S w wq) (fun q _ => (n - intOf q).toNat)
      case atStart => exact ⟨k, Nat.le_refl _, hk2, rfl, fun j x h1 h2 => by omega, HAV, hoV⟩
      case round =>
        obtain ⟨i, hki, hin, rfl, hsm, hai, hoi⟩ := hrel
        obtain ⟨wq, hwq⟩ : ∃ wq, wq = wr := ⟨_, rfl⟩
        rw [← hwq] at hai hoi
        rw [← hwq]
        clear hwq
        have hai' := hai.out
        obtain ⟨cv2, bv2, mb2, cs2, _, ha2⟩ := hai'
        obtain ⟨b2, cap2, rfl, hc2⟩ := owns_blocks ha2.blocks
        have c22 : wq.cell? ⟨p, 2, none⟩ = some (.slice b2 n cap2) := by rw [HN.out]; exact ha2.cell rfl
        have c20 : wq.cell? ⟨p, 0, none⟩ = some (.int .i64 s.cap) := ha2.cell rfl
        have HEND : ∀ m, Hid (Calls Try.prog 28 #[.pointer (some ⟨p, 0, none⟩), .int .i64 ((i : Int) - 1)] (wq.drewN m) fun e w' => e = .returned (.int .i64 (E s.L i)) ∧ ∃ m', w' = (wq.drewN m).drewN m') := fun m =>
          end_any (s := { s with packed := k }) i (hai.out.oth (T := []) ((Oth.refl _ _).drewN m) (by simp)) ⟨HS.out.1, HS.out.2.1, HS.out.2.2.1, by have := HN.out; simp only; omega⟩ (by have := HN.out; simp only; omega)
        obtain ⟨ek, hek⟩ : ∃ a, a = E s.L i := ⟨_, rfl⟩
        have hekb : ek ≤ 33554432 := by rw [hek]; exact HE.out i
        rw [← hek] at HEND
        have HEK := Lib.hid hek
        have t2 : IntKind.i64.wrap ((i : Int) - 1) = (i : Int) - 1 := by rw [IntKind.wrap_i64]; omega
        clear hek ha2
        by_cases hit : i < n
        · exfalso; have := HKN.out; omega
        · have hin2 : i = n := by omega
          have t3 : ¬ (i : Int) < (n : Int) := by omega
          subst hin2
          have hcb : s.cap ≤ 16777216 := HS.out.1
          obtain ⟨sc, hsc⟩ : ∃ a, a = s.cap := ⟨_, rfl⟩
          rw [← hsc] at c20 hcb
          have HSC := Lib.hid hsc
          have t4 : IntKind.i64.wrap ((sc : Int) - (ek : Int)) = (sc : Int) - (ek : Int) := by rw [IntKind.wrap_i64]; omega
          clear hc2 hsc
          go_wp2_with fail
          go_quiet ((go_at_call 28; exact Calls.quiet_of (HEND _).out))
          go_wp2_with fail
          go_ret2
          refine ⟨k, i, _, rfl, ⟨hk1, hki, by have := HN.out; omega, hti.out, hsm.out, fun y hy => ?_, fun he => ?_⟩, hai.out.oth (T := []) ((Oth.refl _ _).drewN _) (by simp), hoi.drewN _⟩
          · rw [List.getElem?_eq_none (by have := HN.out; omega)] at hy; cases hy
          · rw [← HEK.out, ← HSC.out]; simp
end Go.Proofs.Ythllilkafdgheaa
