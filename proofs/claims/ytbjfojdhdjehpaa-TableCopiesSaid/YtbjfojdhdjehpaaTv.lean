/- The walk of same: a table and a list of pairs with the same entries are found the same. Condition: fewer than 256 entries. -/
import Derived.Test.YtbjfojdhdjehpaaTu
import Derived.Test.YtbjfojdhdjehpaaTi
namespace Go.Proofs.Ytbjfojdhdjehpaa
open Go.RowKit Go.Shelf
set_option linter.unusedVariables false
set_option linter.unusedSimpArgs false
attribute [local go_sem] Oper.semAt_some

theorem all_stops (n : Nat) (hn : 1 ≤ n) (B p : Nat) (K S : List Nat) (L : List (Int × ByteArray)) (h1 : L.length ≤ 1000) (w : World) (hK : ∀ k, k ∈ K → k < w.heap.size)
    (hB : w.cell? ⟨B, 0, none⟩ = some (.pointer (some ⟨p, 0, none⟩))) (ht : Tab_is p S L w) :
    SeqStopsK Fence.wide n Try.prog 36 #[.pointer (some ⟨B, 0, none⟩)] (fun x : Int × ByteArray => #[Value.int .i64 x.1, Value.string x.2]) (CK K) (fun ys => ys = L) (fun pre => pre <+: L) L.length w := fun l J Jx W hW hJ hJx hY h0 => by
  have ho := oth_of_below hW
  exact all1 n l B p hn K S L h1 J Jx W (fun k hk => Nat.lt_of_lt_of_le (hK k hk) ho.size) hJ hY (ho.cell hB (by simp)) (ht.oth ho (by simp)) h0

theorem toList_inj {s t : ByteArray} (h : s.toList = t.toList) : s = t := by
  rw [ByteArray.toList_eq, ByteArray.toList_eq] at h
  cases s; cases t
  simpa using h
theorem Oth.putObj {S : List Nat} {a w : World} (h : Oth S a w) {D : Nat} (hD : D ∈ S ∨ a.heap.size ≤ D) (o : Obj) : Oth S a (w.putObj D o) :=
  h.grown (grownBy_putObj' w D o) (fun k e => by cases e; exact hD)
theorem oth_ownFrom {β : Type} {S : List Nat} {A : World} {B : Nat} (hB : A.heap.size ≤ B) : OwnFrom B (fun (_ : β) W => Oth S A W) := fun s W W' row hs hg hr =>
  hs.grown hg (fun k e => .inr (by have := (hr k e).1; omega))
theorem heap_ownFrom {β : Type} {B g : Nat} {f : β → Obj} (hf : ∀ s, (f s).isCells = true) : OwnFrom B (fun s W => W.heap[g]? = some (f s)) := fun s W W' row hs hg hr => by
  have hs' : W.heap[g]? = some (f s) := hs
  show W'.heap[g]? = some (f s)
  rw [hg.block g (lt_of_block hs') (fun e => ?_)]
  · exact hs
  · obtain ⟨_, o, ho, hc⟩ := hr g e.symm
    rw [hs'] at ho; cases ho
    rw [hf s] at hc; cases hc
/-- A piece of code that is left normally alone. -/
theorem wp_normal {P : Program} {c : Code} {K : Act → World → Prop} {Q : Exit → Act → World → Prop} {a : Act} {w : World} (h : c.wp P (Exit.then K (fun _ _ _ => False)) a w) : c.wp P (Exit.then K Q) a w :=
  Code.wp_mono (fun e a w h => by cases e <;> first | exact h | exact h.elim) h

set_option maxRecDepth 100000 in
set_option maxHeartbeats 4000000 in
theorem same_any (w0 : World) (p : Nat) (v : Value) (L x : List (Int × ByteArray)) (w : World) (hh : Hold w0 p L v x [] w) (hl : Like x L) (h1 : L.length < 256) :
    Calls Try.prog 18 #[.pointer (some ⟨p, 0, none⟩), v] w fun e w' => e = .returned (.bool true) ∧ Oth [] w w' := by
  have hx1 : x.length < 256 := by rw [hl.len]; exact h1
  have HH := Lib.hid hh
  have HL := Lib.hid hl
  clear hh hl
  refine (callsIn_wide (n := 5)).1 ?_
  refine callsIn_of_wp_marks Try.func18 rfl trivial ?_ rfl
  simp only [Try.ntmps18, List.size_toArray, List.length_cons, List.length_nil, Nat.reduceAdd, Nat.reduceSub, Array.replicate_succ, Array.replicate_zero, List.push_toArray, List.append_toArray, List.nil_append, List.cons_append]
  refine wpIn_wide.2 ?_
  go_wp2_with fail
  have HH1 := Lib.hid (HH.out.still ((Oth.refl [] w).alloc (.cells #[.bool false] 4)))
  refine (HH1.out.sorted HL.out hx1).mono ?_
  rintro e w1 ⟨v1, rfl, hold1, hown1, ho1⟩
  have hr1 : w1.heap[w.heap.size]? = some (.cells #[.bool false] 4 (0, 0)) := ho1.heap (heap_alloc_new _ _) (by simp)
  have how1 : Oth [] w w1 := ((Oth.refl _ _).alloc _).trans ho1 (Fr.nil _ _)
  have hsl : ∃ b cp, v1 = .slice b L.length cp := by
    obtain ⟨B, ⟨b, cp, he, _⟩, _⟩ := hold1.rp
    exact ⟨b, cp, he⟩
  obtain ⟨b, cp, rfl⟩ := hsl
  obtain ⟨n, hn⟩ : ∃ n, n = L.length := ⟨_, rfl⟩
  have HN := Lib.hid hn
  have h1' := h1
  rw [← hn] at h1 hold1
  have HO1 := Lib.hid hold1
  rw [← hn]
  clear hn hold1 hown1 HH1
  go_wp2_with fail
  have hoa : Oth [] w1 (w1.alloc (.cells #[.slice b n cp] 36)) := (Oth.refl _ _).alloc _
  have HO1a := Lib.hid (HO1.out.still hoa)
  refine (HO1a.out.Keys h1').mono ?_
  rintro e w2 ⟨v2, rfl, hown2, ho2'⟩
  have ho2 := hoa.trans ho2' (Fr.nil _ _)
  have hl2 : w2.heap[w1.heap.size]? = some (.cells #[.slice b n cp] 36 (0, 0)) := ho2'.heap (heap_alloc_new _ _) (by simp)
  obtain ⟨b2, cap2, rfl, hc2⟩ := owns_slice hown2
  have HC2 : Hid (∀ i (p : Int × ByteArray), L[i]? = some p → ∃ g, b2 = some ⟨g, 0, none⟩ ∧ w2.cell? ⟨g, i, none⟩ = some (.int .i64 p.1)) := fun i p hp => hc2 i _ (by unfold keyCells_is; rw [List.getElem?_map, hp]; rfl)
  have HO2 := Lib.hid (HO1.out.still ho2)
  have hr2 := ho2.heap hr1 (by simp)
  have how2 := how1.trans ho2 (Fr.nil _ _)
  rw [← HN.out]
  clear hc2 hown2 HO1 HO1a hr1 how1 ho2 ho1 ho2' hoa
  go_wp2_with fail
  have hob : Oth [] w2 (w2.alloc (.cells #[.slice b2 n cap2] 22)) := (Oth.refl _ _).alloc _
  obtain ⟨W3, hW3⟩ : ∃ W3, W3 = w2.alloc (.cells #[.slice b2 n cap2] 22) := ⟨_, rfl⟩
  rw [← hW3] at hob ⊢
  have hk3 : W3.heap[w2.heap.size]? = some (.cells #[.slice b2 n cap2] 22 (0, 0)) := by rw [hW3]; exact heap_alloc_new _ _
  have hl3 := hob.heap hl2 (by simp)
  have hr3 := hob.heap hr2 (by simp)
  have how3 := how2.trans hob (Fr.nil _ _)
  have hsz3 : W3.heap.size = w2.heap.size + 1 := by rw [hW3]; simp
  have HO3 := Lib.hid (HO2.out.still hob)
  have HC3 : Hid (∀ i (p : Int × ByteArray), L[i]? = some p → ∃ g, b2 = some ⟨g, 0, none⟩ ∧ W3.cell? ⟨g, i, none⟩ = some (.int .i64 p.1)) := fun i p hp => by
    obtain ⟨g, hg, hc⟩ := HC2.out i p hp
    exact ⟨g, hg, hob.cell hc (by simp)⟩
  have cl3 : W3.cell? ⟨w1.heap.size, 0, none⟩ = some (.slice b n cp) := by simp [World.cell?, hl3]
  have ck3 : W3.cell? ⟨w2.heap.size, 0, none⟩ = some (.slice b2 n cap2) := by simp [World.cell?, hk3]
  have HLEN : ∀ w', Oth [] W3 w' → Hid (Calls Try.prog 16 #[.pointer (some ⟨p, 0, none⟩)] w' fun e w'' => e = .returned (.int .i64 n) ∧ w' = w'') := fun w' ho => by
    rw [HN.out]; exact (HO3.out.still ho).Len
  have HL3 := Lib.hid hl3
  have HK3 := Lib.hid hk3
  have HR3 := Lib.hid hr3
  have hmix : Try.prog.follows .mixedOrders = true := by kernel_rfl
  have tn : (n : Int) ≤ 255 := by omega
  clear hW3 hl2 hr2 how2 HO2 HC2 hob hl3 hk3 hr3
  refine wp_normal ?_
  go_quiet ((go_at_call 16; exact Calls.quiet_of_same ((HLEN _ (by first | exact (Oth.refl _ _) | exact (Oth.refl _ _).drew | exact (Oth.refl _ _).drewN _)).out.mono (fun _ _ h => ⟨h.1, h.2.symm⟩))))
  obtain ⟨V, hV⟩ : ∃ V, V = W3.drewN nq := ⟨_, rfl⟩
  rw [← hV]
  have hoV : Oth [] W3 V := by rw [hV]; exact (Oth.refl _ _).drewN _
  have hszV : V.heap.size = w2.heap.size + 1 := by rw [hV]; exact hsz3
  clear hV
  go_wp2_with fail
  refine (All_any p _).mono ?_
  rintro e w4 ⟨rfl, rfl⟩
  go_wp2_with fail
  obtain ⟨W4, hW4⟩ : ∃ W4, W4 = (V.alloc (.cells #[.int .i64 0] 3)).alloc (.cells #[.pointer (some ⟨p, 0, none⟩)] 32) := ⟨_, rfl⟩
  rw [← hW4]
  have ho4 : Oth [] W3 W4 := by rw [hW4]; exact (hoV.alloc _).alloc _
  obtain ⟨kb, hkb⟩ : ∃ kb, kb = w2.heap.size + 1 := ⟨_, rfl⟩
  have hkh : W4.heap[kb]? = some (.cells #[.int .i64 0] 3 (0, 0)) := by
    have : ((V.alloc (.cells #[.int .i64 0] 3)).alloc (.cells #[.pointer (some ⟨p, 0, none⟩)] 32)).heap[V.heap.size]? = some (.cells #[.int .i64 0] 3 (0, 0)) := by
      rw [Below.heap_alloc _ _ _ (by simp)]; exact heap_alloc_new _ _
    rw [hW4, hkb, ← hszV]; exact this
  have hph : W4.heap[kb + 1]? = some (.cells #[.pointer (some ⟨p, 0, none⟩)] 32 (0, 0)) := by
    have := heap_alloc_new (V.alloc (.cells #[.int .i64 0] 3)) (.cells #[.pointer (some ⟨p, 0, none⟩)] 32)
    rw [World.size_alloc] at this
    rw [hW4, hkb, ← hszV]; exact this
  rw [← hkb]
  have hl4 := ho4.heap HL3.out (by simp)
  have hk4 := ho4.heap HK3.out (by simp)
  have hr4 := ho4.heap HR3.out (by simp)
  have HO4 := Lib.hid (HO3.out.still ho4)
  have how4 := how3.trans ho4 (Fr.nil _ _)
  have hpb : W4.cell? ⟨kb + 1, 0, none⟩ = some (.pointer (some ⟨p, 0, none⟩)) := by simp [World.cell?, hph]
  have hsz4 : W4.heap.size = kb + 2 := by rw [hW4]; simp; omega
  have hlt0 := lt_of_block HR3.out
  have hne1 : w.heap.size ≠ kb := by omega
  have hw1 := lt_of_block HL3.out
  have hne2 : w1.heap.size ≠ kb := by omega
  have hne3 : w2.heap.size ≠ kb := by omega
  obtain ⟨S, htab⟩ := HO4.out.tab
  have HSTOP := Lib.hid (all_stops 4 (by omega) (kb + 1) p [kb] S L (by omega) W4 (by simp; omega) hpb htab)
  have HPR : Hid (∀ j k t, L[j]? = some (k, t) → ∃ g, b = some ⟨g, 0, none⟩ ∧ g ≠ kb ∧ W4.cell? ⟨g, j * 2, none⟩ = some (.int .i64 k) ∧ W4.cell? ⟨g, j * 2 + 1, none⟩ = some (.string t)) := fun j k t hj => by
    obtain ⟨B, ⟨b', cp', he, hc⟩, hB⟩ := HO3.out.rp
    injection he with e1
    subst e1
    obtain ⟨g, hg, hgB, c1, c2⟩ := hc j k t hj
    exact ⟨g, hg, by have := hB g hgB; omega, ho4.cell c1 (by simp), ho4.cell c2 (by simp)⟩
  have HKY : Hid (∀ j (p : Int × ByteArray), L[j]? = some p → ∃ g, b2 = some ⟨g, 0, none⟩ ∧ g ≠ kb ∧ W4.cell? ⟨g, j, none⟩ = some (.int .i64 p.1)) := fun j p hj => by
    obtain ⟨g, hg, hc⟩ := HC3.out j p hj
    exact ⟨g, hg, by have := World.block_lt_of_cell? W3 _ hc; simp at this; omega, ho4.cell hc (by simp)⟩
  have HL4 := Lib.hid hl4
  have HK4 := Lib.hid hk4
  have HR4 := Lib.hid hr4
  have HKH := Lib.hid hkh
  have hlw : w.heap.size < W4.heap.size := lt_of_block hr4
  have hkw : kb < W4.heap.size := by omega
  have hww : w.heap.size ≤ kb := by omega
  have HSZ4 : Hid (W4.heap.size = kb + 2) := hsz4
  clear hkb hszV hsz3 hsz4 hoV hlt0 hw1
  clear hW4 hl4 hk4 hr4 hkh hph hpb HLEN HC3 HO3 HL3 HK3 HR3 cl3 ck3 ho4 how3 htab hmix
  refine (wpIn_wide (n := 5)).1 ?_
  refine wpIn_rangeFunc_ownG (α := Int × ByteArray) rfl (by omega) (gf := 36) (lb := #[.pointer (some ⟨kb + 1, 0, none⟩)]) rfl trivial (enters_of Try.func36 (by kernel_rfl) rfl)
    HSTOP.out (fun h k => h.trans k) (fun W l o o' _ h hc _ => CK.book W l o o' h hc) (Below.refl _ _) (fun _ => rfl)
    (fun pre W => (pre <+: L ∧ W.heap[kb]? = some (.cells #[.int .i64 (pre.length : Int)] 3 (0, 0))) ∧ Oth [kb] W4 W)
    (fun _ pre _ => ¬ pre <+: L)
    (OwnFrom.and (fun s A B row hs hg hr => ⟨hs.1, heap_ownFrom (f := fun s : List (Int × ByteArray) => .cells #[.int .i64 (s.length : Int)] 3 (0, 0)) (fun _ => rfl) s A B row hs.2 hg hr⟩) (oth_ownFrom (Nat.le_refl _)))
    (fun _ _ _ _ _ hs _ _ => hs)
    ⟨⟨List.nil_prefix, HKH.out⟩, Oth.refl _ _⟩
    ?a1 ?assign ?body ?done ?stop
  case assign =>
    intro l x W K hK
    gi_wp2
    exact hK
  case body =>
    rintro l pre ⟨a, s⟩ W ⟨⟨hpre, hkc⟩, hoW⟩ hlen
    obtain ⟨⟨k, t⟩, hkt⟩ : ∃ p, L[pre.length]? = some p := ⟨_, List.getElem?_eq_getElem hlen⟩
    obtain ⟨g, rfl, hgk, c1', c2'⟩ := HPR.out _ k t hkt
    obtain ⟨g2, rfl, hg2k, c3'⟩ := HKY.out _ _ hkt
    have c1 := hoW.cell c1' (by simpa using hgk)
    have c2 := hoW.cell c2' (by simpa using hgk)
    have c3 := hoW.cell c3' (by simpa using hg2k)
    have hl5 := hoW.heap HL4.out (by simpa using hne2)
    have hk5 := hoW.heap HK4.out (by simpa using hne3)
    have hr5 := hoW.heap HR4.out (by simpa using hne1)
    have d1 : W.cell? ⟨w1.heap.size, 0, none⟩ = some (.slice (some ⟨g, 0, none⟩) n cp) := by simp [World.cell?, hl5]
    have d2 : W.cell? ⟨w2.heap.size, 0, none⟩ = some (.slice (some ⟨g2, 0, none⟩) n cap2) := by simp [World.cell?, hk5]
    have d3 : W.cell? ⟨kb, 0, none⟩ = some (.int .i64 (pre.length : Int)) := by simp [World.cell?, hkc]
    have d4 : W.frozen? ⟨kb, 0, none⟩ = false := by simp [World.frozen?, hkc]
    have d5 : W.frozen? ⟨w.heap.size, 0, none⟩ = false := by simp [World.frozen?, hr5]
    have d6 : W.cell? ⟨w.heap.size, 0, none⟩ = some (.bool false) := by simp [World.cell?, hr5]
    have hpx : (k, t) = (a, s) → pre ++ [(a, s)] <+: L := fun e => by
      rw [List.prefix_iff_eq_take] at hpre ⊢
      rw [List.length_append, List.length_singleton, List.take_add_one, hkt, ← hpre, e]; rfl
    have hpx2 : (k, t) ≠ (a, s) → ¬ pre ++ [(a, s)] <+: L := fun e h => by
      have := h.getElem (i := pre.length) (by simp)
      have h5 := (List.getElem?_eq_some_iff.1 hkt).2
      simp at this
      rw [← this] at h5
      exact e h5.symm
    obtain ⟨j, hj⟩ : ∃ j, j = pre.length := ⟨_, rfl⟩
    have HJ := Lib.hid hj
    rw [← hj] at c1 c2 c3 d3
    have t1 : (j : Int) < (n : Int) := by have := HN.out; omega
    have t2 : ¬ (n : Int) ≤ (j : Int) := by omega
    have HOW := Lib.hid hoW
    have HKC := Lib.hid hkc
    have HPX := Lib.hid hpx
    have HPX2 := Lib.hid hpx2
    clear hl5 hk5 hr5 c1' c2' c3' hoW hkc hpre hpx hpx2 hj hkt hlen
    by_cases hka : a = k
    · subst hka
      by_cases hst : s = t
      · subst hst
        gi_wp2
        refine ⟨(KeepsOthers.setCell _ _ _).from _, ((Oth.refl [kb] W).setCell (p := ⟨kb, 0, none⟩) (.inl (by simp)) _).ck, ⟨by first | exact HPX.out rfl | exact HPX.out trivial, ?_⟩, HOW.out.setCell (p := ⟨kb, 0, none⟩) (.inl (by simp)) _⟩
        rw [one_set0 HKC.out, List.length_append, HJ.out]; rfl
      · have hts : ¬ s.toList = t.toList := fun e => hst (toList_inj e)
        gi_wp2
        refine ⟨(KeepsOthers.setCell _ _ _).from _, HPX2.out (fun e => ?_)⟩
        cases e; exact hst rfl
    · have hka2 : ¬ k = a := fun e => hka e.symm
      gi_wp2
      refine ⟨(KeepsOthers.setCell _ _ _).from _, HPX2.out (fun e => ?_)⟩
      cases e; exact hka rfl
  case done =>
    rintro D xs W hD rfl ⟨⟨_, hkc⟩, hoW⟩ hDef
    have hl5 := hoW.heap HL4.out (by simpa using hne2)
    have hr5 := hoW.heap HR4.out (by simpa using hne1)
    have d1 : W.cell? ⟨w1.heap.size, 0, none⟩ = some (.slice b n cp) := by simp [World.cell?, hl5]
    have d3 : W.cell? ⟨kb, 0, none⟩ = some (.int .i64 (n : Int)) := by rw [HN.out]; simp [World.cell?, hkc]
    have d5 : W.frozen? ⟨w.heap.size, 0, none⟩ = false := by simp [World.frozen?, hr5]
    have d6 : W.cell? ⟨w.heap.size, 0, none⟩ = some (.bool false) := by simp [World.cell?, hr5]
    have hDef2 : (W.setCell ⟨w.heap.size, 0, none⟩ (.bool true)).heap[D]? = some (.deferred (some [])) := (KeepsOthers.setCell W ⟨w.heap.size, 0, none⟩ (.bool true)).same D _ hDef rfl
    have hfin : (W.setCell ⟨w.heap.size, 0, none⟩ (.bool true)).heap[w.heap.size]? = some (.cells #[.bool true] 4 (0, 0)) := one_set0 hr5
    have hoF : Oth [] w ((W.setCell ⟨w.heap.size, 0, none⟩ (.bool true)).putObj D (.deferred none)) := by
      have h1 : Oth [] w W := how4.trans hoW (fun k hk => by simp at hk; subst hk; exact .inr hww)
      exact (h1.setCell (p := ⟨w.heap.size, 0, none⟩) (.inr (Nat.le_refl _)) _).putObj (.inr (by omega)) _
    have hcF : ((W.setCell ⟨w.heap.size, 0, none⟩ (.bool true)).putObj D (.deferred none)).cell? ⟨w.heap.size, 0, none⟩ = some (.bool true) := by
      have : ((W.setCell ⟨w.heap.size, 0, none⟩ (.bool true)).putObj D (.deferred none)).heap[w.heap.size]? = some (.cells #[.bool true] 4 (0, 0)) := (World.putObj_heap_other (by omega)).trans hfin
      simp [World.cell?, this]
    clear hl5 hr5 hkc hoW hDef hfin
    gi_wp2
    go_wp2
    refine ⟨by simp, .inl ⟨_, _, rfl, run_takeDeferred hDef2, ?_⟩⟩
    refine ⟨.bool true, ?_, rfl, hoF⟩
    simp [results, Try.f18, go_sem, hcF]
  case stop =>
    rintro D c pre W _ h1 h2 _
    exact absurd h1 h2
end Go.Proofs.Ytbjfojdhdjehpaa
