/- The walk of the law TableCopies: it returns true. Condition: the arguments read as lists of calls and an int. -/
import Derived.Test.YtbjfojdhdjehpaaTx
import Derived.Test.YtbjfojdhdjehpaaTva
import Derived.Deep.RegionHeld3
namespace Go.Proofs.Ytbjfojdhdjehpaa
open Go.RowKit Go.Shelf
set_option linter.unusedVariables false
set_option linter.unusedSimpArgs false
attribute [local go_sem] Oper.semAt_some

/-- The keys. -/
def keysOf (L : List (Int × ByteArray)) : List Int := L.map (fun p => p.1)

set_option maxHeartbeats 4000000 in
set_option maxRecDepth 100000 in
theorem tableCopies_walk (base base2 : Option Addr) (n cap n2 cap2 : Nat) (l more : List OpV) (stop : Int) (w : World) (hR : ReadsO base n l w) (hR2 : ReadsO base2 n2 more w) :
    Calls Try.prog 6 #[.slice base n cap, .slice base2 n2 cap2, .int .i64 stop] w fun e w' => e = .returned (.bool true) ∧ Oth [] w w' := by
  have HR := Lib.hid hR
  have HR2 := Lib.hid hR2
  clear hR hR2
  refine (callsIn_wide (n := 5)).1 ?_
  refine callsIn_of_wp_marks Try.func6 rfl trivial ?_ rfl
  simp only [Try.ntmps6, List.size_toArray, List.length_cons, List.length_nil, Nat.reduceAdd, Nat.reduceSub, Array.replicate_succ, Array.replicate_zero, List.push_toArray, List.append_toArray, List.nil_append, List.cons_append]
  refine wpIn_wide.2 ?_
  go_wp2_with fail
  obtain ⟨W0, hW0⟩ : ∃ W0, W0 = (w.alloc (.cells #[.int .i64 stop] 3)).alloc (.cells #[.bool false] 4) := ⟨_, rfl⟩
  have h0s : W0.heap[w.heap.size]? = some (.cells #[.int .i64 stop] 3 (0, 0)) := by rw [hW0, Below.heap_alloc _ _ _ (by simp)]; exact heap_alloc_new _ _
  have h0r : W0.heap[w.heap.size + 1]? = some (.cells #[.bool false] 4 (0, 0)) := by
    have := heap_alloc_new (w.alloc (.cells #[.int .i64 stop] 3)) (.cells #[.bool false] 4)
    rw [World.size_alloc] at this; rw [hW0]; exact this
  have ho0 : Oth [] w W0 := by rw [hW0]; exact ((Oth.refl _ _).alloc _).alloc _
  have hsz0 : W0.heap.size = w.heap.size + 2 := by rw [hW0]; simp
  rw [← hW0]
  obtain ⟨sb, hsb⟩ : ∃ sb, sb = w.heap.size := ⟨_, rfl⟩
  obtain ⟨rb, hrb⟩ : ∃ rb, rb = sb + 1 := ⟨_, rfl⟩
  rw [← hsb] at h0s h0r hsz0
  rw [← hrb] at h0r
  rw [← hsb, ← hrb]
  have HSB : Hid (sb = w.heap.size ∧ rb = sb + 1 ∧ W0.heap.size = sb + 2) := ⟨hsb, hrb, hsz0⟩
  have H0S := Lib.hid h0s
  have H0R := Lib.hid h0r
  -- how the law returns early
  have EARLY : ∀ w5, Oth [] W0 w5 → Hid (w5.frozen? ⟨rb, 0, none⟩ = false ∧ w5.cell? ⟨rb, 0, none⟩ = some (.bool false) ∧ (w5.setCell ⟨rb, 0, none⟩ (.bool true)).cell? ⟨rb, 0, none⟩ = some (.bool true) ∧ Oth [] w (w5.setCell ⟨rb, 0, none⟩ (.bool true))) := fun w5 ho => by
    have h1 := ho.heap H0R.out (by simp)
    have h2 := one_set0 (u := .bool true) h1
    refine ⟨by simp [World.frozen?, h1], by simp [World.cell?, h1], by simp [World.cell?, h2], (ho0.trans ho (Fr.nil _ _)).setCell (.inr ?_) _⟩
    show w.heap.size ≤ rb
    omega
  clear hW0 hsb hrb hsz0 h0s h0r
  refine (small_any base n cap l W0 (HR.out.oth ho0)).mono ?_
  rintro e w1 ⟨⟨b, rfl, hb⟩, ho1⟩
  cases b with
  | false =>
    clear hb
    go_wp2_with fail
    refine (awake_any _).mono ?_
    rintro e w4 ⟨rfl, ho4⟩
    obtain ⟨f1, f2, f3, f4⟩ := (EARLY _ (ho1.trans ho4 (Fr.nil _ _))).out
    go_wp2
    refine ⟨.bool true, ?_, rfl, f4⟩
    simp [results, Try.f6, go_sem, f3]
  | true =>
    have hn100 : n ≤ 100 := hb rfl
    clear hb
    go_wp2_with fail
    refine (small_any base2 n2 cap2 more _ ((HR2.out.oth ho0).oth ho1)).mono ?_
    rintro e w2 ⟨⟨b, rfl, hb⟩, ho2⟩
    have ho3 := ho1.trans ho2 (Fr.nil _ _)
    clear ho1 ho2
    cases b with
    | false =>
      clear hb
      go_wp2_with fail
      refine (awake_any _).mono ?_
      rintro e w4 ⟨rfl, ho4⟩
      obtain ⟨f1, f2, f3, f4⟩ := (EARLY _ (ho3.trans ho4 (Fr.nil _ _))).out
      go_wp2
      refine ⟨.bool true, ?_, rfl, f4⟩
      simp [results, Try.f6, go_sem, f3]
    | true =>
      have hn2100 : n2 ≤ 100 := hb rfl
      clear hb
      go_wp2_with fail
      refine (awake_any _).mono ?_
      rintro e w4 ⟨rfl, ho4'⟩
      have ho4 := ho3.trans ho4' (Fr.nil _ _)
      clear ho3 ho4'
      go_wp2_with fail
      obtain ⟨xb, hxb⟩ : ∃ xb, xb = w4.heap.size + 1 := ⟨_, rfl⟩
      obtain ⟨pt, hpt⟩ : ∃ pt, pt = w4.heap.size := ⟨_, rfl⟩
      have HST : Hid (Hold w4 pt [] (.slice none 0 0) [] [(xb, .cells #[.slice none 0 0] 36 (0, 0))] ((w4.alloc (.cells #[.slice none 0 0, .int .i64 0] 35)).alloc (.cells #[.slice none 0 0] 36))) := by
        have := (Hold.made w4).more (.cells #[.slice none 0 0] 36)
        rw [World.size_alloc] at this
        rw [hxb, hpt]; exact this
      rw [← hxb, ← hpt]
      have hxw : w4.heap.size ≤ xb := by omega
      clear hxb hpt
      go_loopw [35] (fun q wr => ∃ i : Nat, i ≤ n ∧ q = .int .i64 i ∧ Hid (∃ L x v, Hold w4 pt L v x [(xb, .cells #[v] 36 (0, 0))] wr ∧ Like x L ∧ L.length ≤ i)) (fun q _ => (n - intOf q).toNat)
      case atStart => exact ⟨0, by omega, rfl, [], [], _, HST.out, Like.nil, by simp⟩
      case round =>
        obtain ⟨i, hin, rfl, hh⟩ := hrel
        by_cases hlt : i < n
        · have t1 : (i : Int) < (n : Int) := by omega
          obtain ⟨L, x, v, hold, hlk, hll⟩ := hh.out
          have how := (ho0.trans ho4 (Fr.nil _ _)).trans hold.out (Fr.nil _ _)
          have hR := HR.out.oth how
          obtain ⟨hn, hmx, hc⟩ := hR
          obtain ⟨⟨a, k, s⟩, hav⟩ : ∃ p, l[i]? = some p := ⟨_, List.getElem?_eq_getElem (by omega)⟩
          obtain ⟨g, off, rfl, c1, c2, c3⟩ := hc i a k s hav
          have hgl : g < wr.heap.size := World.block_lt_of_cell? wr _ c1
          have hxo := hold.at (g := xb) (o := .cells #[v] 36 (0, 0)) (by simp)
          have hxl := lt_of_block hxo
          have cx : wr.cell? ⟨xb, 0, none⟩ = some v := by simp [World.cell?, hxo]
          have HO := Lib.hid (hold.still ((Oth.refl [] wr).alloc (.cells #[.int .i64 a, .int .i64 k, .string s] 38 (0, 0))))
          have HLK := Lib.hid hlk
          have HL1 : Hid (L.length < 255) := by show _ < _; omega
          have HLL := Lib.hid hll
          obtain ⟨bv, cv, hv⟩ : ∃ b c, v = .slice b x.length c := by
            obtain ⟨B, ⟨b, cp, he, _⟩, _⟩ := hold.rp
            exact ⟨b, cp, he⟩
          subst hv
          clear hn hmx hc hav hh hold hlk how hll hxo
          go_wp2_with fail
          refine (step_any _ _ _ L x a k s _ _ HO.out HLK.out HL1.out).mono ?_
          rintro e w5 ⟨v', L', x', rfl, hold5, hlk5, hll5⟩
          have hx5 := hold5.at (g := xb) (o := .cells #[.slice bv x.length cv] 36 (0, 0)) (by simp)
          have f1 : w5.frozen? ⟨xb, 0, none⟩ = false := by simp [World.frozen?, hx5]
          have f2 : w5.cell? ⟨xb, 0, none⟩ = some (.slice bv x.length cv) := by simp [World.cell?, hx5]
          obtain ⟨bv', cv', hv⟩ : ∃ b c, v' = .slice b x'.length c := by
            obtain ⟨B, ⟨b, cp, he, _⟩, _⟩ := hold5.rp
            exact ⟨b, cp, he⟩
          subst hv
          have HH3 : Hid (∃ L x v, Hold w4 pt L v x [(xb, .cells #[v] 36 (0, 0))] (w5.setCell ⟨xb, 0, none⟩ (.slice bv' x'.length cv')) ∧ Like x L ∧ L.length ≤ i + 1) :=
            ⟨L', x', _, hold5.store hxw _, hlk5, by have := HLL.out; omega⟩
          clear hold5 hlk5 hll5 HO HLK c1 c2 c3 hx5 cx
          go_wp2_with fail
          go_roundw
          case rel => exact ⟨i + 1, by omega, by go_num, HH3⟩
          case measure => simp [intOf]; omega
        · obtain rfl : i = n := by omega
          have t1 : ¬ (i : Int) < (i : Int) := by omega
          obtain ⟨L, x, v, hold, hlk, hll⟩ := hh.out
          obtain ⟨bv, cv, hv⟩ : ∃ b c, v = .slice b x.length c := by
            obtain ⟨B, ⟨b, cp, he, _⟩, _⟩ := hold.rp
            exact ⟨b, cp, he⟩
          subst hv
          have how := (ho0.trans ho4 (Fr.nil _ _)).trans hold.out (Fr.nil _ _)
          have hoW := ho4.trans hold.out (Fr.nil _ _)
          have hll' : L.length ≤ 100 := by omega
          have HCP : Hid (Calls Try.prog 19 #[.pointer (some ⟨pt, 0, none⟩)] wr fun e w' => ∃ q, e = .returned (.pointer (some ⟨q, 0, none⟩)) ∧ NewTab_is wr q L w') := by
            obtain ⟨S, hS⟩ := hold.tab
            exact Copy_any pt S L wr hS (by omega)
          have HOL := Lib.hid hold
          have HLK := Lib.hid hlk
          clear hh hold hlk hll HST
          go_wp2_with fail
          refine HCP.out.mono ?_
          rintro e w6 ⟨q, rfl, hnt⟩
          have ho6 : Oth [] wr w6 := hnt.out
          have HOC : Hid (Hold wr q L (.slice bv x.length cv) x [] w6) := by
            obtain ⟨S, h1, h2, h3⟩ := hnt
            obtain ⟨B, h4, h5⟩ := HOL.out.rp
            exact ⟨S, B, h1, h4.oth ho6 (by simp), h3, ⟨fun k hk => ⟨fun e => by have := h3 k e; have := h5 k hk; omega, Nat.lt_of_lt_of_le (h5 k hk) ho6.size⟩, by simp⟩, ho6⟩
          have HO6 := Lib.hid (HOL.out.still ho6)
          have hx6 := HO6.out.at (g := xb) (o := .cells #[.slice bv x.length cv] 36 (0, 0)) (by simp)
          have f2 : w6.cell? ⟨xb, 0, none⟩ = some (.slice bv x.length cv) := by simp [World.cell?, hx6]
          clear HCP hnt hx6
          go_wp2_with fail
          obtain ⟨w7, hw7⟩ : ∃ w7, w7 = wr := ⟨_, rfl⟩
          rw [← hw7] at HOL HOC ho6 how hoW
          clear hw7
          go_loopw [12, 54] (fun v q' wr => ∃ j : Nat, j ≤ n2 ∧ q' = .int .i64 j ∧ Hid (∃ M y, Hold w7 q M v y [] wr ∧ Like y M ∧ M.length ≤ 100 + j)) (fun _ q' _ => (n2 - intOf q').toNat)
          case atStart => exact ⟨0, by omega, rfl, L, x, HOC.out, HLK.out, by omega⟩
          case round =>
            obtain ⟨j, hjn, rfl, hh⟩ := hrel
            by_cases hjt : j < n2
            · have t2 : (j : Int) < (n2 : Int) := by omega
              obtain ⟨M, y, hold, hlk, hll⟩ := hh.out
              have hR := HR2.out.oth (how.trans hold.out (Fr.nil _ _))
              obtain ⟨hn, hmx, hc⟩ := hR
              obtain ⟨⟨a, k, s⟩, hav⟩ : ∃ p, more[j]? = some p := ⟨_, List.getElem?_eq_getElem (by omega)⟩
              obtain ⟨g, off, rfl, c1, c2, c3⟩ := hc j a k s hav
              have hgl : g < wr.heap.size := World.block_lt_of_cell? wr _ c1
              have HO := Lib.hid (hold.still ((Oth.refl [] wr).alloc (.cells #[.int .i64 a, .int .i64 k, .string s] 38 (0, 0))))
              have HLK2 := Lib.hid hlk
              have HL1 : Hid (M.length < 255) := by show _ < _; omega
              have HLL := Lib.hid hll
              clear hn hmx hc hav hh hold hlk hll
              go_wp2_with fail
              refine (step_any _ _ _ M y a k s _ _ HO.out HLK2.out HL1.out).mono ?_
              rintro e w8 ⟨v', L', x', rfl, hold5, hlk5, hll5⟩
              have HH3 : Hid (∃ M y, Hold w7 q M v' y [] w8 ∧ Like y M ∧ M.length ≤ 100 + (j + 1)) := ⟨L', x', hold5, hlk5, by have := HLL.out; omega⟩
              clear hold5 hlk5 hll5 HO HLK2 c1 c2 c3
              go_wp2_with fail
              go_roundw
              case rel => exact ⟨j + 1, by omega, by go_num, HH3⟩
              case measure => simp [intOf]; omega
            · obtain rfl : j = n2 := by omega
              have t2 : ¬ (j : Int) < (j : Int) := by omega
              obtain ⟨M, y, hold, hlk, hll⟩ := hh.out
              have HO7 := Lib.hid (HOL.out.still hold.out)
              have HOC7 := Lib.hid hold
              have HLC := Lib.hid hlk
              have hM : M.length ≤ 200 := by omega
              obtain ⟨V, hV⟩ : ∃ V, V = wr := ⟨_, rfl⟩
              have hoV : Oth [] W0 wr := hoW.trans hold.out (Fr.nil _ _)
              rw [← hV] at HO7 HOC7 hoV
              rw [← hV]
              clear hh hold hlk hll hV HOC HO6 HOL ho6 how hoW f2
              go_wp2_with fail
              obtain ⟨V1, hV1⟩ : ∃ V1, V1 = V.alloc (.cells #[.int .i64 0] 3) := ⟨_, rfl⟩
              obtain ⟨kb, hkb⟩ : ∃ kb, kb = V.heap.size := ⟨_, rfl⟩
              have hk1 : V1.heap[kb]? = some (.cells #[.int .i64 0] 3 (0, 0)) := by rw [hV1, hkb]; exact heap_alloc_new _ _
              have hoV1 : Oth [] V V1 := by rw [hV1]; exact (Oth.refl _ _).alloc _
              have HCP : Hid (Calls Try.prog 19 #[.pointer (some ⟨pt, 0, none⟩)] V1 fun e w' => ∃ q, e = .returned (.pointer (some ⟨q, 0, none⟩)) ∧ NewTab_is V1 q L w') := by
                obtain ⟨S, hS⟩ := HO7.out.tab
                exact Copy_any pt S L V1 (hS.oth hoV1 (by simp)) (by omega)
              rw [← hkb, ← hV1]
              refine HCP.out.mono ?_
              rintro e w9 ⟨q2, rfl, hnt⟩
              have ho9 : Oth [] V1 w9 := hnt.out
              have HKB : Hid (kb = V.heap.size) := hkb
              clear hV1 hkb HCP
              go_wp2_with fail
              refine (All_any q2 _).mono ?_
              rintro e w10 ⟨rfl, rfl⟩
              go_wp2_with fail
              obtain ⟨W, hW⟩ : ∃ W, W = w9.alloc (.cells #[.pointer (some ⟨q2, 0, none⟩)] 32) := ⟨_, rfl⟩
              obtain ⟨pb, hpb⟩ : ∃ pb, pb = w9.heap.size := ⟨_, rfl⟩
              have hoW9 : Oth [] w9 W := by rw [hW]; exact (Oth.refl _ _).alloc _
              have hp10 : W.cell? ⟨pb, 0, none⟩ = some (.pointer (some ⟨q2, 0, none⟩)) := by rw [hW, hpb]; exact World.cell?_alloc_at _ _ w9.heap.size 0 rfl
              have hoVW : Oth [] V W := (hoV1.trans ho9 (Fr.nil _ _)).trans hoW9 (Fr.nil _ _)
              have hk10 := hoW9.heap (ho9.heap hk1 (by simp)) (by simp)
              obtain ⟨S2, ht2, _, _⟩ := hnt
              have ht10 := ht2.oth hoW9 (by simp)
              have hkbl := lt_of_block hk10
              have hstops := all_stops 4 (by omega) pb q2 [kb] S2 L (by omega) W (by simpa using hkbl) hp10 ht10
              have hx10 := hoVW.heap (HO7.out.at (g := xb) (o := .cells #[.slice bv x.length cv] 36 (0, 0)) (by simp)) (by simp)
              have hs10 := (hoV.trans hoVW (Fr.nil _ _)).heap H0S.out (by simp)
              have hr10 := (hoV.trans hoVW (Fr.nil _ _)).heap H0R.out (by simp)
              have hxk : xb ≠ kb := by have := lt_of_block (HO7.out.at (g := xb) (o := .cells #[.slice bv x.length cv] 36 (0, 0)) (by simp)); have := HKB.out; omega
              have hsk : sb ≠ kb := by have := lt_of_block (hoV.heap H0S.out (by simp)); have := HKB.out; omega
              have hrk : rb ≠ kb := by have := lt_of_block (hoV.heap H0R.out (by simp)); have := HKB.out; omega
              have HSRT : ∀ w', Oth [kb] W w' → Hid (Calls Try.prog 14 #[.slice bv x.length cv] w' fun e w'' => (∃ v', e = .returned v' ∧ w''.ownsRow w'.heap.size 43 2 v' L.length (ent_is L)) ∧ Oth [] w' w'') := fun w' ho => by
                obtain ⟨B, hB1, hB2⟩ := HO7.out.rp
                have hnk : ∀ k, k ∈ B → k ∉ [kb] := fun k hk => by have := hB2 k hk; have := HKB.out; simp; omega
                refine (Sorted_own _ x L B w' ((hB1.oth hoVW (by simp)).oth ho hnk) (fun k hk => by have := hB2 k hk; have := hoVW.size; have := ho.size; omega) HLK.out (by rw [HLK.out.len]; omega)).mono ?_
                rintro e w'' ⟨v', rfl, h1, h2⟩
                exact ⟨⟨v', rfl, h1⟩, h2⟩
              have HWE := Lib.hid hW
              have HPB := Lib.hid hpb
              rw [← hW, ← hpb]
              have HSTOP := Lib.hid hstops
              have HX10 := Lib.hid hx10
              have HS10 := Lib.hid hs10
              have HR10 := Lib.hid hr10
              have HK10 := Lib.hid hk10
              clear hW hpb hstops hx10 hs10 hr10 hk10 hp10 ht10 ht2 hk1 ho9 hoW9 hoV1
              obtain ⟨m, hm⟩ : ∃ m, m = x.length := ⟨_, rfl⟩
              rw [← hm] at HX10 HSRT HO7
              have HM : Hid (m = L.length) := by show _ = _; rw [hm, HLK.out.len]
              clear hm
              have hm100 : m ≤ 100 := by have := HM.out; omega
              refine (wpIn_wide (n := 5)).1 ?_
              refine wpIn_rangeFunc_ownG (α := Int × ByteArray) rfl (by omega) (gf := 36) (lb := #[.pointer (some ⟨pb, 0, none⟩)]) rfl trivial (enters_of Try.func36 (by kernel_rfl) rfl)
                HSTOP.out (fun h k => h.trans k) (fun W l o o' _ h hc _ => CK.book W l o o' h hc) (Below.refl _ _) (fun _ => rfl)
                (fun pre W' => (keysOf pre <+: keysOf L ∧ W'.heap[kb]? = some (.cells #[.int .i64 (pre.length : Int)] 3 (0, 0))) ∧ Oth [kb] W W')
                (fun c pre W' => ((c = .exit 4 ∧ (pre.length : Int) = stop) ∧ W'.heap[kb]? = some (.cells #[.int .i64 (pre.length : Int)] 3 (0, 0))) ∧ Oth [kb] W W' ∨ ¬ keysOf pre <+: keysOf L)
                (OwnFrom.and (fun s A B row hs hg hr => ⟨hs.1, heap_ownFrom (f := fun s : List (Int × ByteArray) => .cells #[.int .i64 (s.length : Int)] 3 (0, 0)) (fun _ => rfl) s A B row hs.2 hg hr⟩) (oth_ownFrom (Nat.le_refl _)))
                (fun c s A B row hs hg hr => by
                  rcases hs with ⟨⟨h1, h2⟩, h3⟩ | h
                  · exact .inl ⟨⟨h1, heap_ownFrom (f := fun s : List (Int × ByteArray) => .cells #[.int .i64 (s.length : Int)] 3 (0, 0)) (fun _ => rfl) s A B row h2 hg hr⟩, oth_ownFrom (β := Unit) (Nat.le_refl _) () A B row h3 hg hr⟩
                  · exact .inr h)
                ⟨⟨List.nil_prefix, HK10.out⟩, Oth.refl _ _⟩
                ?a1 ?assign ?body ?done ?stop
              case assign =>
                intro l x W K hK
                gi_wp2
                exact hK
              case body =>
                rintro lr pre ⟨a, s⟩ U ⟨⟨hpre, hkc⟩, hoU⟩ hlen
                obtain ⟨⟨k, t⟩, hkt⟩ : ∃ p, L[pre.length]? = some p := ⟨_, List.getElem?_eq_getElem hlen⟩
                have hx5 := hoU.heap HX10.out (by simpa using hxk)
                have hs5 := hoU.heap HS10.out (by simpa using hsk)
                have hr5 := hoU.heap HR10.out (by simpa using hrk)
                have d1 : U.cell? ⟨xb, 0, none⟩ = some (.slice bv m cv) := by simp [World.cell?, hx5]
                have d2 : U.cell? ⟨sb, 0, none⟩ = some (.int .i64 stop) := by simp [World.cell?, hs5]
                have d3 : U.cell? ⟨kb, 0, none⟩ = some (.int .i64 (pre.length : Int)) := by simp [World.cell?, hkc]
                obtain ⟨j2, hj2⟩ : ∃ j, j = pre.length := ⟨_, rfl⟩
                rw [← hj2] at d3
                have t3 : (j2 : Int) < (m : Int) := by have := HM.out; omega
                have t4 : ¬ (m : Int) ≤ (j2 : Int) := by omega
                have hml : (0 : Nat) < m := by omega
                have HSR : Hid (Calls Try.prog 14 #[.slice bv m cv] U.drew fun e w'' => ∃ g c, e = .returned (.slice (some ⟨g, 0, none⟩) m c) ∧ w''.cell? ⟨g, j2 * 2, none⟩ = some (.int .i64 k) ∧ w''.cell? ⟨kb, 0, none⟩ = some (.int .i64 (j2 : Int)) ∧ Oth [] U w'') := by
                  refine (HSRT U.drew hoU.drew).out.mono ?_
                  rintro e w'' ⟨⟨v', rfl, h1⟩, h2⟩
                  have ho2 : Oth [] U w'' := ((Oth.refl [] U).drew).trans h2 (Fr.nil _ _)
                  obtain ⟨g, c, rfl, _, hr⟩ := row_of_owns h1 (by have := HM.out; omega)
                  rw [← HM.out] at hr
                  refine ⟨g, c, by rw [HM.out], hr.cell (by rw [hj2]; exact ecs_key L _ k t hkt), ho2.cell d3 (by simp), ho2⟩
                have hpx : k = a → keysOf (pre ++ [(a, s)]) <+: keysOf L := fun e => by
                  unfold keysOf at hpre ⊢
                  rw [List.prefix_iff_eq_take] at hpre ⊢
                  rw [List.map_append, List.length_append, List.map_cons, List.map_nil, List.length_singleton, List.take_add_one, List.length_map, List.getElem?_map, hkt]
                  rw [List.length_map] at hpre
                  rw [← hpre, ← e]; rfl
                have hpx2 : k ≠ a → ¬ keysOf (pre ++ [(a, s)]) <+: keysOf L := fun e h => by
                  unfold keysOf at h
                  have := h.getElem (i := pre.length) (by simp)
                  have h5 := (List.getElem?_eq_some_iff.1 hkt).2
                  simp at this
                  rw [h5] at this
                  exact e this.symm
                have hlp : ((pre ++ [(a, s)]).length : Int) = (j2 : Int) + 1 := by rw [List.length_append, hj2]; simp
                have HLP := Lib.hid hlp
                have HPX := Lib.hid hpx
                have HPX2 := Lib.hid hpx2
                have HOU := Lib.hid hoU
                have HKC := Lib.hid hkc
                have HR5 := Lib.hid hr5
                have HS5 := Lib.hid hs5
                have hmix : Try.prog.follows .mixedOrders = true := by kernel_rfl
                clear hpx hpx2 hoU hkc hpre hkt hj2 hlen hx5 hs5 hr5 HSRT hlp
                have hk1 : 1 ≤ 3 := by omega
                gi_wp2_with fail
                refine wpIn_region_held (S := fun w' => w'.cell? ⟨kb, 0, none⟩ = some (.int .i64 (j2 : Int)) ∧ w'.cell? ⟨xb, 0, none⟩ = some (.slice bv m cv)) (by kernel_rfl) (by kernel_rfl) ?_
                have hS : (fun w' : World => w'.cell? ⟨kb, 0, none⟩ = some (.int .i64 (j2 : Int)) ∧ w'.cell? ⟨xb, 0, none⟩ = some (.slice bv m cv)) U.drew := ⟨d3, d1⟩
                have t5 : ¬ m ≤ j2 := by omega
                have t6 : j2 < m := by omega
                refine wpAnyH_take (i := 0) (v := ?v0) rfl (by kernel_rfl) (by kernel_rfl) (by kernel_rfl) (fun _ _ _ h => h) (Or.inl ⟨by rfl, ?y0⟩) hS ?_
                case y0 => intro w hSw; obtain ⟨s1, s2⟩ := hSw; go_simp; try with_reducible rfl
                try simp only [Act.put, List.setIfInBounds_toArray, List.set_cons_zero, List.set_cons_succ, List.getElem_toArray, List.getElem_cons_zero, List.getElem_cons_succ]
                refine wpAnyH_take (i := 1) (v := ?v1) rfl (by kernel_rfl) (by kernel_rfl) (by kernel_rfl) (fun _ _ _ h => h) (Or.inl ⟨by rfl, ?y1⟩) hS ?_
                case y1 => intro w hSw; obtain ⟨s1, s2⟩ := hSw; go_simp; try with_reducible rfl
                try simp only [Act.put, List.setIfInBounds_toArray, List.set_cons_zero, List.set_cons_succ, List.getElem_toArray, List.getElem_cons_zero, List.getElem_cons_succ]
                refine wpAnyH_take (i := 2) (v := ?v2) rfl (by kernel_rfl) (by kernel_rfl) (by kernel_rfl) (fun _ _ _ h => h) (Or.inl ⟨by rfl, ?y2⟩) hS ?_
                case y2 => intro w hSw; obtain ⟨s1, s2⟩ := hSw; go_simp; try with_reducible rfl
                try simp only [Act.put, List.setIfInBounds_toArray, List.set_cons_zero, List.set_cons_succ, List.getElem_toArray, List.getElem_cons_zero, List.getElem_cons_succ]
                refine wpAnyH_take (i := 3) (v := .bool false) rfl (by kernel_rfl) (by kernel_rfl) (by kernel_rfl) (fun _ _ _ h => h) (Or.inl ⟨by rfl, ?y3⟩) hS ?_
                case y3 => intro w hSw; obtain ⟨s1, s2⟩ := hSw; go_simp; try omega
                try simp only [Act.put, List.setIfInBounds_toArray, List.set_cons_zero, List.set_cons_succ, List.getElem_toArray, List.getElem_cons_zero, List.getElem_cons_succ]
                refine wpAnyH_take (i := 4) (v := ?v4) rfl (by kernel_rfl) (by kernel_rfl) (by kernel_rfl) (fun _ _ _ h => h) (Or.inl ⟨by rfl, ?y4⟩) hS ?_
                case y4 => intro w hSw; obtain ⟨s1, s2⟩ := hSw; go_simp; try with_reducible rfl
                try simp only [Act.put, List.setIfInBounds_toArray, List.set_cons_zero, List.set_cons_succ, List.getElem_toArray, List.getElem_cons_zero, List.getElem_cons_succ]
                refine wpAnyH_take (i := 5) (v := ?v5) rfl (by kernel_rfl) (by kernel_rfl) (by kernel_rfl) (fun _ _ _ h => h) (Or.inl ⟨by rfl, ?y5⟩) hS ?_
                case y5 => intro w hSw; obtain ⟨s1, s2⟩ := hSw; go_simp; try with_reducible rfl
                try simp only [Act.put, List.setIfInBounds_toArray, List.set_cons_zero, List.set_cons_succ, List.getElem_toArray, List.getElem_cons_zero, List.getElem_cons_succ]
                refine wpAnyH_take (i := 6) (v := ?v6) rfl (by kernel_rfl) (by kernel_rfl) (by kernel_rfl) (fun _ _ _ h => h) (Or.inl ⟨by rfl, ?y6⟩) hS ?_
                case y6 => intro w hSw; obtain ⟨s1, s2⟩ := hSw; go_simp; try with_reducible rfl
                try simp only [Act.put, List.setIfInBounds_toArray, List.set_cons_zero, List.set_cons_succ, List.getElem_toArray, List.getElem_cons_zero, List.getElem_cons_succ]
                refine wpAnyH_take (i := 8) (v := ?v8) rfl (by kernel_rfl) (by kernel_rfl) (by kernel_rfl) (fun _ _ _ h => h) (Or.inl ⟨by rfl, ?y8⟩) hS ?_
                case y8 => intro w hSw; obtain ⟨s1, s2⟩ := hSw; go_simp; try with_reducible rfl
                try simp only [Act.put, List.setIfInBounds_toArray, List.set_cons_zero, List.set_cons_succ, List.getElem_toArray, List.getElem_cons_zero, List.getElem_cons_succ]
                refine wpAnyH_ready (rs := [7]) (by kernel_rfl) (by simp) ?_
                refine AllReadyH.cons rfl (fun K hK => ?_) AllReadyH.nil
                go_simp
                refine HSR.out.mono ?_
                rintro e w11 ⟨g, c, rfl, e1, e2, ho11⟩
                refine hK.out _ _ ⟨e2, ho11.cell d1 (by simp)⟩ (fun hS => ?_)
                clear hK K
                try simp only [Act.put, List.setIfInBounds_toArray, List.set_cons_zero, List.set_cons_succ, List.getElem_toArray, List.getElem_cons_zero, List.getElem_cons_succ]
                refine wpAnyH_take (i := 9) (v := ?v9) rfl (by kernel_rfl) (by kernel_rfl) (by kernel_rfl) (fun _ _ _ h => h) (Or.inl ⟨by rfl, ?y9⟩) hS ?_
                case y9 => intro w hSw; obtain ⟨s1, s2⟩ := hSw; go_simp; try with_reducible rfl
                try simp only [Act.put, List.setIfInBounds_toArray, List.set_cons_zero, List.set_cons_succ, List.getElem_toArray, List.getElem_cons_zero, List.getElem_cons_succ]
                refine wpAnyH_take (i := 10) (v := ?v10) rfl (by kernel_rfl) (by kernel_rfl) (by kernel_rfl) (fun _ _ _ h => h) (Or.inl ⟨by rfl, ?y10⟩) hS ?_
                case y10 => intro w hSw; obtain ⟨s1, s2⟩ := hSw; go_simp; try with_reducible rfl
                try simp only [Act.put, List.setIfInBounds_toArray, List.set_cons_zero, List.set_cons_succ, List.getElem_toArray, List.getElem_cons_zero, List.getElem_cons_succ]
                refine wpAnyH_ready (rs := [11]) (by kernel_rfl) (by simp) ?_
                refine AllReadyH.cons rfl (fun K hK => ?_) AllReadyH.nil
                go_simp
                refine hK.out _ _ hS (fun hS => ?_)
                clear hK K
                try simp only [Act.put, List.setIfInBounds_toArray, List.set_cons_zero, List.set_cons_succ, List.getElem_toArray, List.getElem_cons_zero, List.getElem_cons_succ]
                refine wpAnyH_take (i := 12) (v := ?v12) rfl (by kernel_rfl) (by kernel_rfl) (by kernel_rfl) (fun _ _ _ h => h) (Or.inl ⟨by rfl, ?y12⟩) hS ?_
                case y12 => intro w hSw; obtain ⟨s1, s2⟩ := hSw; go_simp; try with_reducible rfl
                try simp only [Act.put, List.setIfInBounds_toArray, List.set_cons_zero, List.set_cons_succ, List.getElem_toArray, List.getElem_cons_zero, List.getElem_cons_succ]
                refine wpAnyH_take (i := 13) (v := ?v13) rfl (by kernel_rfl) (by kernel_rfl) (by kernel_rfl) (fun _ _ _ h => h) (Or.inl ⟨by rfl, ?y13⟩) hS ?_
                case y13 => intro w hSw; obtain ⟨s1, s2⟩ := hSw; go_simp; try with_reducible rfl
                try simp only [Act.put, List.setIfInBounds_toArray, List.set_cons_zero, List.set_cons_succ, List.getElem_toArray, List.getElem_cons_zero, List.getElem_cons_succ]
                refine wpAnyH_done (by kernel_rfl) ?_ _
                have hk11 := ho11.heap HKC.out (by simp)
                have hs11 := ho11.heap HS5.out (by simp)
                have hr11 := ho11.heap HR5.out (by simp)
                have g1 : w11.frozen? ⟨kb, 0, none⟩ = false := by simp [World.frozen?, hk11]
                have g2 : w11.cell? ⟨sb, 0, none⟩ = some (.int .i64 stop) := by simp [World.cell?, hs11]
                have g3 : w11.cell? ⟨rb, 0, none⟩ = some (.bool false) := by simp [World.cell?, hr11]
                have g4 : w11.frozen? ⟨rb, 0, none⟩ = false := by simp [World.frozen?, hr11]
                have HK11 := Lib.hid hk11
                have HO11 := Lib.hid ho11
                have hsk' := hsk.symm
                clear hk11 hs11 hr11 ho11 d1 d2 d3 e1 hS HSR
                by_cases hka : a = k
                · subst hka
                  have HFK : Hid ((w11.setCell ⟨kb, 0, none⟩ (.int .i64 ((j2 : Int) + 1))).heap[kb]? = some (.cells #[.int .i64 ((pre ++ [(a, s)]).length : Int)] 3 (0, 0))) := by
                    show _ = _
                    rw [one_set0 HK11.out, HLP.out]
                  have HFO : Hid (Oth [kb] U (w11.setCell ⟨kb, 0, none⟩ (.int .i64 ((j2 : Int) + 1)))) := (HO11.out.mono (by simp)).setCell (.inl (by simp)) _
                  have HKF : Hid (KeepsFrom W.heap.size U (w11.setCell ⟨kb, 0, none⟩ (.int .i64 ((j2 : Int) + 1)))) := (KeepsOthers.from (⟨HO11.out.size, fun k o hk _ => HO11.out.heap hk (by simp)⟩ : KeepsOthers U w11) _).trans ((KeepsOthers.setCell _ _ _).from _)
                  by_cases hst : (j2 : Int) + 1 = stop
                  · subst hst
                    gi_wp2
                    exact ⟨HKF.out, .inl ⟨⟨⟨rfl, HLP.out⟩, HFK.out⟩, HOU.out.trans HFO.out (Fr.refl _ _)⟩⟩
                  · gi_wp2
                    exact ⟨HKF.out, HFO.out.ck, ⟨by first | exact HPX.out rfl | exact HPX.out trivial, HFK.out⟩, HOU.out.trans HFO.out (Fr.refl _ _)⟩
                · have hka2 : ¬ k = a := fun e => hka e.symm
                  gi_wp2
                  exact ⟨(KeepsOthers.from (⟨HO11.out.size, fun k o hk _ => HO11.out.heap hk (by simp)⟩ : KeepsOthers U w11) _).trans ((KeepsOthers.setCell _ _ _).from _), .inr (HPX2.out hka2)⟩
              case done =>
                rintro D xs U hD hxs ⟨⟨_, hkc⟩, hoU⟩ hDef
                have hxs' := hxs.symm
                clear hxs
                subst hxs'
                have hoVU : Oth [] V U := hoVW.trans hoU (fun k hk => by simp at hk; subst hk; exact .inr (by have := HKB.out; omega))
                have hx5 := hoU.heap HX10.out (by simpa using hxk)
                have hs5 := hoU.heap HS10.out (by simpa using hsk)
                have d1 : U.cell? ⟨xb, 0, none⟩ = some (.slice bv m cv) := by simp [World.cell?, hx5]
                have d2 : U.cell? ⟨sb, 0, none⟩ = some (.int .i64 stop) := by simp [World.cell?, hs5]
                have d3 : U.cell? ⟨kb, 0, none⟩ = some (.int .i64 (m : Int)) := by rw [HM.out]; simp [World.cell?, hkc]
                have HOVU := Lib.hid hoVU
                have HDEF := Lib.hid hDef
                clear hx5 hs5 hkc hoU hDef hoVU HSRT
                gi_wp2
                go_wp2_with fail
                refine (same_any w4 pt _ L x U (HO7.out.still HOVU.out).less HLK.out (by omega)).mono ?_
                rintro e w12 ⟨rfl, ho12⟩
                go_wp2_with fail
                have ho12V := HOVU.out.trans ho12 (Fr.nil _ _)
                refine (same_any w7 q _ M y w12 (HOC7.out.still ho12V) HLC.out (by omega)).mono ?_
                rintro e w13 ⟨rfl, ho13⟩
                go_wp2_with fail
                refine (awake_any _).mono ?_
                rintro e w14 ⟨rfl, ho14⟩
                have ho14V := (ho12V.trans ho13 (Fr.nil _ _)).trans ho14 (Fr.nil _ _)
                have ho14U := (ho12.trans ho13 (Fr.nil _ _)).trans ho14 (Fr.nil _ _)
                obtain ⟨f1, f2, f3, f4⟩ := (EARLY _ (hoV.trans ho14V (Fr.nil _ _))).out
                have hDef2 : (w14.setCell ⟨rb, 0, none⟩ (.bool true)).heap[D]? = some (.deferred (some [])) := (KeepsOthers.setCell w14 ⟨rb, 0, none⟩ (.bool true)).same D _ (ho14U.heap HDEF.out (by simp)) rfl
                have hDr : rb ≠ D := by have := lt_of_block HR10.out; omega
                have hwD : w.heap.size ≤ D := by have := ((ho0.trans hoV (Fr.nil _ _)).trans hoVW (Fr.nil _ _)).size; omega
                have hoF : Oth [] w ((w14.setCell ⟨rb, 0, none⟩ (.bool true)).putObj D (.deferred none)) := f4.putObj (.inr hwD) _
                have hcF : ((w14.setCell ⟨rb, 0, none⟩ (.bool true)).putObj D (.deferred none)).cell? ⟨rb, 0, none⟩ = some (.bool true) := by
                  rw [World.cell?_of_block (World.putObj_heap_other (by simpa using hDr))]; exact f3
                clear ho12 ho13 ho14 ho12V ho14V ho14U f3 f4 hDr hwD
                go_wp2
                refine ⟨by simp, .inl ⟨_, _, rfl, run_takeDeferred hDef2, ?_⟩⟩
                refine ⟨.bool true, ?_, rfl, hoF⟩
                simp [results, Try.f6, go_sem, hcF]
              case stop =>
                rintro D c pre U hD hpre hIx hDef
                rcases hIx with ⟨⟨⟨rfl, hst⟩, hkc⟩, hoU⟩ | h
                · skip
                  have hoVU : Oth [] V U := hoVW.trans hoU (fun k hk => by simp at hk; subst hk; exact .inr (by have := HKB.out; omega))
                  have hx5 := hoU.heap HX10.out (by simpa using hxk)
                  have hs5 := hoU.heap HS10.out (by simpa using hsk)
                  have d1 : U.cell? ⟨xb, 0, none⟩ = some (.slice bv m cv) := by simp [World.cell?, hx5]
                  have d2 : U.cell? ⟨sb, 0, none⟩ = some (.int .i64 stop) := by simp [World.cell?, hs5]
                  have d3 : U.cell? ⟨kb, 0, none⟩ = some (.int .i64 stop) := by rw [← hst]; simp [World.cell?, hkc]
                  have HOVU := Lib.hid hoVU
                  have HDEF := Lib.hid hDef
                  clear hx5 hs5 hkc hoU hDef hoVU HSRT hst
                  by_cases hms : stop = (m : Int)
                  · have hms2 : (m : Int) = stop := hms.symm
                    clear hms
                    gi_wp2
                    go_wp2_with fail
                    refine (same_any w4 pt _ L x U (HO7.out.still HOVU.out).less HLK.out (by omega)).mono ?_
                    rintro e w12 ⟨rfl, ho12⟩
                    go_wp2_with fail
                    have ho12V := HOVU.out.trans ho12 (Fr.nil _ _)
                    refine (same_any w7 q _ M y w12 (HOC7.out.still ho12V) HLC.out (by omega)).mono ?_
                    rintro e w13 ⟨rfl, ho13⟩
                    go_wp2_with fail
                    refine (awake_any _).mono ?_
                    rintro e w14 ⟨rfl, ho14⟩
                    have ho14V := (ho12V.trans ho13 (Fr.nil _ _)).trans ho14 (Fr.nil _ _)
                    have ho14U := (ho12.trans ho13 (Fr.nil _ _)).trans ho14 (Fr.nil _ _)
                    obtain ⟨f1, f2, f3, f4⟩ := (EARLY _ (hoV.trans ho14V (Fr.nil _ _))).out
                    have hDef2 : (w14.setCell ⟨rb, 0, none⟩ (.bool true)).heap[D]? = some (.deferred (some [])) := (KeepsOthers.setCell w14 ⟨rb, 0, none⟩ (.bool true)).same D _ (ho14U.heap HDEF.out (by simp)) rfl
                    have hDr : rb ≠ D := by have := lt_of_block HR10.out; omega
                    have hwD : w.heap.size ≤ D := by have := ((ho0.trans hoV (Fr.nil _ _)).trans hoVW (Fr.nil _ _)).size; omega
                    have hoF : Oth [] w ((w14.setCell ⟨rb, 0, none⟩ (.bool true)).putObj D (.deferred none)) := f4.putObj (.inr hwD) _
                    have hcF : ((w14.setCell ⟨rb, 0, none⟩ (.bool true)).putObj D (.deferred none)).cell? ⟨rb, 0, none⟩ = some (.bool true) := by
                      rw [World.cell?_of_block (World.putObj_heap_other (by simpa using hDr))]; exact f3
                    clear ho12 ho13 ho14 ho12V ho14V ho14U f3 f4 hDr hwD
                    go_wp2
                    refine ⟨by simp, .inl ⟨_, _, rfl, run_takeDeferred hDef2, ?_⟩⟩
                    refine ⟨.bool true, ?_, rfl, hoF⟩
                    simp [results, Try.f6, go_sem, hcF]
                  · gi_wp2
                    go_wp2_with fail
                    refine (same_any w4 pt _ L x U (HO7.out.still HOVU.out).less HLK.out (by omega)).mono ?_
                    rintro e w12 ⟨rfl, ho12⟩
                    go_wp2_with fail
                    have ho12V := HOVU.out.trans ho12 (Fr.nil _ _)
                    refine (same_any w7 q _ M y w12 (HOC7.out.still ho12V) HLC.out (by omega)).mono ?_
                    rintro e w13 ⟨rfl, ho13⟩
                    go_wp2_with fail
                    refine (awake_any _).mono ?_
                    rintro e w14 ⟨rfl, ho14⟩
                    have ho14V := (ho12V.trans ho13 (Fr.nil _ _)).trans ho14 (Fr.nil _ _)
                    have ho14U := (ho12.trans ho13 (Fr.nil _ _)).trans ho14 (Fr.nil _ _)
                    obtain ⟨f1, f2, f3, f4⟩ := (EARLY _ (hoV.trans ho14V (Fr.nil _ _))).out
                    have hDef2 : (w14.setCell ⟨rb, 0, none⟩ (.bool true)).heap[D]? = some (.deferred (some [])) := (KeepsOthers.setCell w14 ⟨rb, 0, none⟩ (.bool true)).same D _ (ho14U.heap HDEF.out (by simp)) rfl
                    have hDr : rb ≠ D := by have := lt_of_block HR10.out; omega
                    have hwD : w.heap.size ≤ D := by have := ((ho0.trans hoV (Fr.nil _ _)).trans hoVW (Fr.nil _ _)).size; omega
                    have hoF : Oth [] w ((w14.setCell ⟨rb, 0, none⟩ (.bool true)).putObj D (.deferred none)) := f4.putObj (.inr hwD) _
                    have hcF : ((w14.setCell ⟨rb, 0, none⟩ (.bool true)).putObj D (.deferred none)).cell? ⟨rb, 0, none⟩ = some (.bool true) := by
                      rw [World.cell?_of_block (World.putObj_heap_other (by simpa using hDr))]; exact f3
                    clear ho12 ho13 ho14 ho12V ho14V ho14U f3 f4 hDr hwD
                    go_wp2
                    refine ⟨by simp, .inl ⟨_, _, rfl, run_takeDeferred hDef2, ?_⟩⟩
                    refine ⟨.bool true, ?_, rfl, hoF⟩
                    simp [results, Try.f6, go_sem, hcF]
                · exact absurd (List.IsPrefix.map _ hpre) h
end Go.Proofs.Ytbjfojdhdjehpaa
