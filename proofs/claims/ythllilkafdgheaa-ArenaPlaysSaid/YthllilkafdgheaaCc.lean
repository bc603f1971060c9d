/- append of a list that reads so, at elements of any size; the walk of the reference's Without. Condition: the list reads as blocks. -/
import Derived.Test.YthllilkafdgheaaCa
namespace Go.Proofs.Ythllilkafdgheaa
open Go.RowKit
set_option linter.unusedVariables false
set_option linter.unusedSimpArgs false

theorem Try.info77 : (Try.prog.info? 77).map (fun i => (i.zero, i.size, i.bytes)) = some (some (.agg #[.int .i64 0, .int .i64 0, .int .i64 0, .slice none 0 0]), 4, 48) := by kernel_rfl

theorem run_append_none {P : Program} (w : World) (base : Nat) (t ty e : TypeId) (i : TypeInfo) (size : Nat) (ht : P.underlying t = some (.slice e)) (hi : P.info? e = some i)
    (v : Value) (n : Nat) (xs : List Value) (hown : w.ownsRow base e size v n xs) (c : Nat) : (Builtin.append_ #[t, t] ty #[v, .slice none 0 c]).run P w = .ok v w := by
  obtain ⟨_, ⟨rfl, rfl⟩ | ⟨g, cap, cur, rfl, _, _, hnc, _⟩⟩ := hown
  · simp [Builtin.append_, run_underlying ht, sizeOf, typeInfo, hi, Builtin.lenOf, Builtin.firstCells]
  · simp [Builtin.append_, run_underlying ht, sizeOf, typeInfo, hi, Builtin.lenOf, Builtin.firstCells, hnc, storeCells]

theorem wpList_append_rd {P : Program} (w : World) {ops : Array Oper} {rest : List Oper} {o : Oper} {a : Act} {Q : Exit → Act → World → Prop} (hgd : o.guard = none) (s x : Operand) (t : TypeId)
    (ho : o.op = .call { callee := .builtin .append, args := #[s, x], argTypes := #[t, t] })
    (base : Nat) (e : TypeId) (i : TypeInfo) (z : Value) (size bytes : Nat) (ht : P.underlying t = some (.slice e)) (hi : P.info? e = some i) (hz : i.zero = some z)
    (hsize : i.size = size) (hby : i.bytes = bytes) (hzs : z.cells.size = size) (hsz : 0 < size)
    (v : Value) (n : Nat) (xs : List Value) (hs : a.eval s = v) (hown : w.ownsRow base e size v n xs)
    (b : Option Addr) (m c : Nat) (news : List Value) (hx : a.eval x = .slice b m c) (hl : news.length = m * size) (hr : ∀ j u, news[j]? = some u → ∃ g off, b = some ⟨g, off, none⟩ ∧ w.cell? ⟨g, off + j, none⟩ = some u) (h1 : ∀ u ∈ news, u.oneCell' = true)
    (h63 : n + m ≤ maxLen) (hbytes : (n + m) * bytes ≤ 140737488355328) (hbase : base ≤ w.heap.size)
    (h : ∀ v' w', w'.ownsRow base e size v' (n + m) (xs ++ news) → w.grownBy w' v.ownBlock → (v'.ownBlock = v.ownBlock ∨ v'.ownBlock = some w.heap.size) → wpList P ops Q rest (a.put o.dst v') w') :
    wpList P ops Q (o :: rest) a w := by
  have key : ∃ v' w', (Builtin.append_ #[t, t] o.type #[v, .slice b m c]).run P w = .ok v' w' ∧ w'.ownsRow base e size v' (n + m) (xs ++ news) ∧ w.grownBy w' v.ownBlock ∧ (v'.ownBlock = v.ownBlock ∨ v'.ownBlock = some w.heap.size) := by
    cases b with
    | none =>
      have hm : m = 0 := by
        rcases Nat.eq_zero_or_pos m with h0 | h0
        · exact h0
        · obtain ⟨u, hu⟩ : ∃ u, news[0]? = some u := ⟨_, List.getElem?_eq_getElem (by rw [hl]; exact Nat.mul_pos h0 hsz)⟩
          obtain ⟨g, off, hh, _⟩ := hr 0 u hu
          cases hh
      subst hm
      have hnil : news = [] := List.eq_nil_of_length_eq_zero (by simpa using hl)
      subst hnil
      exact ⟨v, w, run_append_none w base t o.type e i size ht hi v n xs hown c, by simpa using hown, ⟨rfl, rfl, rfl, Nat.le_refl _, fun _ _ _ => rfl⟩, .inl rfl⟩
    | some ad =>
      obtain ⟨v', w', hrun, h2, h3, _, h5⟩ := run_append_own_at (P := P) w base t o.type e i z size bytes ht hi hz hsize hby hzs hsz v n xs hown ad m c news hl
        (fun j u hu => by
          obtain ⟨g, off, he, hc⟩ := hr j u hu
          cases he
          rw [Addr.add_lit]; exact hc) h1 h63 hbytes hbase
      exact ⟨v', w', hrun, h2, h3, h5⟩
  obtain ⟨v', w', hrun, h2, h3, h4⟩ := key
  refine wpList_plain hgd fun K hK => ?_
  unfold Oper.wp execOp
  simp only [ho, resolve, invoke, builtin, Sem.run_bind, Sem.run_pure, Result.andThen_ok, List.map_toArray, List.map_cons, List.map_nil, hs, hx, hrun]
  exact hK _ _ (h v' w' h2 h3 h4)

theorem rcs_take (R : List RB) (k : Nat) : rcs (R.take k) = (rcs R).take (k * 4) := by
  induction R generalizing k with
  | nil => simp [rcs]
  | cons x r ih =>
    cases k with
    | zero => simp [rcs]
    | succ k => rw [List.take_succ_cons, show (k + 1) * 4 = k * 4 + 4 by omega]; simp [rcs, ih]
theorem rcs_drop (R : List RB) (k : Nat) : rcs (R.drop k) = (rcs R).drop (k * 4) := by
  induction R generalizing k with
  | nil => simp [rcs]
  | cons x r ih =>
    cases k with
    | zero => simp [rcs]
    | succ k => rw [List.drop_succ_cons, show (k + 1) * 4 = k * 4 + 4 by omega]; simp [rcs, ih]

/-- Six cells written. -/
def six (X : World) (r : Nat) (b0 b1 b2 b3 b4 b5 : Value) : World := (((((X.setCell ⟨r, 0, none⟩ b0).setCell ⟨r, 1, none⟩ b1).setCell ⟨r, 2, none⟩ b2).setCell ⟨r, 3, none⟩ b3).setCell ⟨r, 4, none⟩ b4).setCell ⟨r, 5, none⟩ b5
theorem six_heap {X : World} {r : Nat} {t : TypeId} {a0 a1 a2 a3 a4 a5 b0 b1 b2 b3 b4 b5 : Value} (h : X.heap[r]? = some (.cells #[a0, a1, a2, a3, a4, a5] t (0, 0))) : (six X r b0 b1 b2 b3 b4 b5).heap[r]? = some (.cells #[b0, b1, b2, b3, b4, b5] t (0, 0)) := by
  have h1 := heap_setCells r [b0, b1, b2, b3, b4, b5] 0 X _ t h
  exact h1
theorem six_oth {S : List Nat} {a X : World} {r : Nat} {b0 b1 b2 b3 b4 b5 : Value} (h : Oth S a X) (hr : r ∈ S ∨ a.heap.size ≤ r) : Oth S a (six X r b0 b1 b2 b3 b4 b5) :=
  (((((h.setCell (p := ⟨r, 0, none⟩) hr b0).setCell (p := ⟨r, 1, none⟩) hr b1).setCell (p := ⟨r, 2, none⟩) hr b2).setCell (p := ⟨r, 3, none⟩) hr b3).setCell (p := ⟨r, 4, none⟩) hr b4).setCell (p := ⟨r, 5, none⟩) hr b5

theorem ret37 {t0 t1 t2 t3 : Value} {ts : List Value} {X : World} {r : Nat} {b0 b1 b2 b3 b4 b5 : Value} (h : X.heap[r]? = some (.cells #[b0, b1, b2, b3, b4, b5] 55 (0, 0))) : (results Try.f37 (List.toArray (t0 :: t1 :: t2 :: t3 :: .pointer (some ⟨r, 0, none⟩) :: ts))).run Try.prog X = .ok (.agg #[b0, b1, b2, b3, b4, b5]) X := by
  simp [results, Try.f37, go_sem, World.cell?, h]

set_option maxHeartbeats 4000000 in
set_option maxRecDepth 100000 in
theorem Without_ref (B : List Nat) (s : St) (k : Nat) (base : Option Addr) (n cap : Nat) (R : List RB) (w : World) (hR : RdR B (.slice base n cap) R w) (h1 : n ≤ 1000) (ha : k < n) (hB : ∀ b, b ∈ B → b < w.heap.size) :
    Calls Try.prog 37 #[sval s (.slice base n cap), .int .i64 k] w fun e w' => ∃ v B', e = .returned (sval s v) ∧ RdR B' v (R.take k ++ R.drop (k + 1)) w' ∧ Fr B w B' ∧ Oth [] w w' := by
  obtain ⟨i0, hi, hz0, hz1, hz2⟩ := info_parts Try.info77
  obtain ⟨hn, hnc, hcm, hrd, hRC⟩ := hR.parts
  obtain ⟨x0, hx0⟩ : ∃ x, R[0]? = some x := ⟨_, List.getElem?_eq_getElem (by omega)⟩
  obtain ⟨hzz, g, off, rfl, hgB, hyy⟩ := hR.at hx0
  have hgl := hB g hgB
  have hc63 : cap ≤ 9223372036854775807 := by unfold maxLen at hcm; omega
  have HRD : Hid (∀ j u, (rcs R)[j]? = some u → w.cell? ⟨g, off + j, none⟩ = some u) := fun j u hu => by
    obtain ⟨g', off', he, _, hc⟩ := hrd j u hu
    cases he; exact hc
  have HRC := Lib.hid hRC
  have HN := Lib.hid hn
  have HB := Lib.hid hB
  have b1 : (k : Int) ≤ (cap : Int) := by omega
  have b2 : k ≤ cap := by omega
  have b3 : (k : Int) + 1 ≤ (cap : Int) := by omega
  have b4 : k + 1 ≤ cap := by omega
  have b5 : (k : Int) + 1 ≤ (n : Int) := by omega
  have b6 : k + 1 ≤ n := by omega
  unfold sval
  clear hR hn hrd hRC hx0 hB hcm hzz hyy
  go_enter Try.func37, Try.ntmps37
  go_wp2_with (at_builtin; refine wpList_append_rd _ rfl _ _ 53 rfl w.heap.size 77 i0 _ 4 48 Try.underlying53 hi hz0 hz1 hz2 rfl (by decide) _ 0 [] rfl ⟨rfl, .inl ⟨rfl, rfl⟩⟩ (some ⟨g, off, none⟩) k cap (rcs (R.take k)) rfl ?a1 ?a2 ?a3 ?a4 ?a5 ?a6 ?_)
  case a1 => rw [rcs_length, List.length_take]; have := HN.out; congr 1; omega
  case a2 =>
    intro j u hu
    refine ⟨g, off, rfl, ?_⟩
    rw [rcs_take, List.getElem?_take] at hu
    split at hu
    · exact (((Oth.refl [] w).alloc _).alloc _).cell (HRD.out j u hu) (by simp)
    · cases hu
  case a3 => exact rcs_one _
  case a4 => unfold maxLen; omega
  case a5 => omega
  case a6 => simp; omega
  intro v1 w1 hown1 hgrow1 hat1
  obtain ⟨W1, hW1⟩ : ∃ W1, W1 = (w.alloc (.cells #[.int .i64 s.cap, .int .i64 s.next, .int .i64 s.high, .int .i64 s.peak, .int .i64 s.moves, .slice (some ⟨g, off, none⟩) n cap] 55)).alloc (.cells #[.int .i64 0, .int .i64 0, .int .i64 0, .int .i64 0, .int .i64 0, .slice none 0 0] 55) := ⟨_, rfl⟩
  have hoW : Oth [] w W1 := by rw [hW1]; exact ((Oth.refl [] w).alloc _).alloc _
  have hsW : W1.heap[w.heap.size]? = some (.cells #[.int .i64 s.cap, .int .i64 s.next, .int .i64 s.high, .int .i64 s.peak, .int .i64 s.moves, .slice (some ⟨g, off, none⟩) n cap] 55 (0, 0)) := by
    rw [hW1, Below.heap_alloc _ _ _ (by simp)]; exact heap_alloc_new _ _
  have hrW : W1.heap[w.heap.size + 1]? = some (.cells #[.int .i64 0, .int .i64 0, .int .i64 0, .int .i64 0, .int .i64 0, .slice none 0 0] 55 (0, 0)) := by
    have := heap_alloc_new (w.alloc (.cells #[.int .i64 s.cap, .int .i64 s.next, .int .i64 s.high, .int .i64 s.peak, .int .i64 s.moves, .slice (some ⟨g, off, none⟩) n cap] 55)) (.cells #[.int .i64 0, .int .i64 0, .int .i64 0, .int .i64 0, .int .i64 0, .slice none 0 0] 55)
    rw [World.size_alloc] at this; rw [hW1]; exact this
  rw [← hW1] at hgrow1
  have hsz1 : W1.heap.size = w.heap.size + 2 := by rw [hW1]; simp
  have hg1 : Oth [] W1 w1 := (Oth.refl _ _).grown hgrow1 (fun k hk => by simp [Value.ownBlock] at hk)
  have hs1 := hg1.heap hsW (by simp)
  have hr1 := hg1.heap hrW (by simp)
  have ho1 := hoW.trans hg1 (Fr.nil _ _)
  have hv1 : ∀ q, v1.ownBlock = some q → w.heap.size + 2 ≤ q := fun q hq => by
    rcases hat1 with h | h
    · rw [hq] at h; simp [Value.ownBlock] at h
    · rw [hq] at h; simp at h; omega
  obtain ⟨sb, hsb⟩ : ∃ sb, sb = w.heap.size := ⟨_, rfl⟩
  have HV1 := Lib.hid hv1
  have HO1 := Lib.hid hown1
  have HS1 := Lib.hid hs1
  have HR1 := Lib.hid hr1
  have HW1 := Lib.hid ho1
  have e5 : w1.cell? ⟨w.heap.size, 5, none⟩ = some (.slice (some ⟨g, off, none⟩) n cap) := by simp [World.cell?, hs1]
  have hsz := ho1.size
  have t7 : IntKind.i64.wrap ((k : Int) + 1) = (k : Int) + 1 := by rw [IntKind.wrap_i64]; omega
  clear hown1 hgrow1 hat1 hW1 hoW hsW hrW hsz1 hg1 hs1 hr1 hv1 hsb
  have key : cap = k + 1 ∨ ¬ cap = k + 1 := by omega
  have HGO : ∀ (v2 : Value) (w2 : World) (q : Nat) (xs : List Value), w2.ownsRow w.heap.size 77 4 v2 q xs → q = n - 1 → xs = rcs (R.take k ++ R.drop (k + 1)) → w1.grownBy w2 v1.ownBlock → (v2.ownBlock = v1.ownBlock ∨ v2.ownBlock = some w1.heap.size) →
      Hid (w2.heap[w.heap.size]? = some (.cells #[.int .i64 s.cap, .int .i64 s.next, .int .i64 s.high, .int .i64 s.peak, .int .i64 s.moves, .slice (some ⟨g, off, none⟩) n cap] 55 (0, 0)) ∧ w2.heap[w.heap.size + 1]? = some (.cells #[.int .i64 0, .int .i64 0, .int .i64 0, .int .i64 0, .int .i64 0, .slice none 0 0] 55 (0, 0)) ∧ Oth [] w w2 ∧ RdR (v2.ownBlock.toList ++ B) v2 (R.take k ++ R.drop (k + 1)) w2 ∧ ∀ q, v2.ownBlock = some q → w.heap.size + 2 ≤ q) := by
    intro v2 w2 q xs hown hq hxs hg hat
    subst hxs
    have ho : Oth [] w w2 := HW1.out.grown hg (fun q hq => by have := HV1.out q hq; exact .inr (by omega))
    refine ⟨(hg.block _ (lt_of_block HS1.out) (fun e => by have := HV1.out _ e.symm; omega)).trans HS1.out, (hg.block _ (lt_of_block HR1.out) (fun e => by have := HV1.out _ e.symm; omega)).trans HR1.out, ho, rdr_of_owns hown (by have := HN.out; simp; omega) (fun x hx => ?_), fun q' hq' => ?_⟩
    · refine (HRC.out x ?_).oth ho (by simp)
      rcases List.mem_append.1 hx with h | h
      · exact List.mem_of_mem_take h
      · exact List.mem_of_mem_drop h
    · rcases hat with h | h
      · exact HV1.out q' (by rw [← h]; exact hq')
      · rw [hq'] at h; simp at h
        have := lt_of_block HR1.out
        omega
  rcases key with hck | hck
  case' inl =>
    have hnk : n = k + 1 := by omega
    have HDR : Hid (R.drop (k + 1) = []) := List.drop_eq_nil_of_le (by have := HN.out; omega)
    go_wp2_with (at_builtin; refine wpList_append_rd _ rfl _ _ 53 rfl w.heap.size 77 i0 _ 4 48 Try.underlying53 hi hz0 hz1 hz2 rfl (by decide) _ _ _ rfl HO1.out (some ⟨g, off, none⟩) 0 0 [] rfl rfl (fun j u hu => by simp at hu) (fun u hu => by cases hu) ?b1 ?b2 ?b3 ?_)
    case b1 => unfold maxLen; omega
    case b2 => omega
    case b3 => omega
    intro v2 w2 hown2 hgrow2 hat2
    have HG := HGO v2 w2 _ _ hown2 (by omega) (by rw [HDR.out]; simp) hgrow2 hat2
    clear hown2 hgrow2 hat2 HGO
  case' inr =>
    have hck2 : ¬ (cap : Int) = (k : Int) + 1 := by omega
    go_wp2_with (at_builtin; refine wpList_append_rd _ rfl _ _ 53 rfl w.heap.size 77 i0 _ 4 48 Try.underlying53 hi hz0 hz1 hz2 rfl (by decide) _ _ _ rfl HO1.out (some ⟨g, off + (k + 1) * 4, none⟩) (n - (k + 1)) (cap - (k + 1)) (rcs (R.drop (k + 1))) rfl ?b0 ?b4 (rcs_one _) ?b1 ?b2 ?b3 ?_)
    case b0 => rw [rcs_length, List.length_drop, HN.out]
    case b4 =>
      intro j u hu
      refine ⟨g, off + (k + 1) * 4, rfl, ?_⟩
      rw [rcs_drop, List.getElem?_drop] at hu
      rw [Nat.add_assoc]
      exact HW1.out.cell (HRD.out _ u hu) (by simp)
    case b1 => unfold maxLen; omega
    case b2 => omega
    case b3 => omega
    intro v2 w2 hown2 hgrow2 hat2
    have HG := HGO v2 w2 _ _ hown2 (by omega) (by simp [rcs_append]) hgrow2 hat2
    clear hown2 hgrow2 hat2 HGO
  all_goals
    obtain ⟨hs2, hr2, ho2, hrd2, hv2⟩ := HG.out
    obtain ⟨b2', c2', hv2e⟩ := hrd2.slice
    obtain ⟨n2', hn2'⟩ : ∃ a, a = (R.take k ++ R.drop (k + 1)).length := ⟨_, rfl⟩
    rw [← hn2'] at hv2e
    subst hv2e
    have cs : ∀ (i : Nat) (v : Value), #[Value.int .i64 s.cap, .int .i64 s.next, .int .i64 s.high, .int .i64 s.peak, .int .i64 s.moves, .slice (some ⟨g, off, none⟩) n cap][i]? = some v → w2.cell? ⟨w.heap.size, i, none⟩ = some v := fun i v h => by simp only [World.cell?, hs2]; exact h
    have e0 := cs 0 _ rfl
    have e1 := cs 1 _ rfl
    have e2 := cs 2 _ rfl
    have e3 := cs 3 _ rfl
    have e4 := cs 4 _ rfl
    have e5 := cs 5 _ rfl
    have cr : ∀ (i : Nat) (v : Value), #[Value.int .i64 0, .int .i64 0, .int .i64 0, .int .i64 0, .int .i64 0, .slice none 0 0][i]? = some v → w2.cell? ⟨w.heap.size + 1, i, none⟩ = some v := fun i v h => by simp only [World.cell?, hr2]; exact h
    have r0 := cr 0 _ rfl
    have r1 := cr 1 _ rfl
    have r2 := cr 2 _ rfl
    have r3 := cr 3 _ rfl
    have r4 := cr 4 _ rfl
    have r5 := cr 5 _ rfl
    have f0 : ∀ i, w2.frozen? ⟨w.heap.size, i, none⟩ = false := fun i => by simp [World.frozen?, hs2]
    have f1 : ∀ i, w2.frozen? ⟨w.heap.size + 1, i, none⟩ = false := fun i => by simp [World.frozen?, hr2]
    have HO2 := Lib.hid ho2
    have HRD2 := Lib.hid hrd2
    have HV2 := Lib.hid hv2
    have HR2 := Lib.hid hr2
    clear hs2 hr2 ho2 hrd2 hv2 cs cr HG hn2'
    go_wp2
    obtain ⟨WF, hWF⟩ : ∃ WF, WF = six (w2.setCell ⟨w.heap.size, 5, none⟩ (.slice b2' n2' c2')) (w.heap.size + 1) (.int .i64 s.cap) (.int .i64 s.next) (.int .i64 s.high) (.int .i64 s.peak) (.int .i64 s.moves) (.slice b2' n2' c2') := ⟨_, rfl⟩
    have hrf : WF.heap[w.heap.size + 1]? = some (.cells #[.int .i64 s.cap, .int .i64 s.next, .int .i64 s.high, .int .i64 s.peak, .int .i64 s.moves, .slice b2' n2' c2'] 55 (0, 0)) := by
      rw [hWF]
      exact six_heap ((Below.heap_setCell _ _ _ _ (by simp)).trans HR2.out)
    have ho2f : Oth [w.heap.size, w.heap.size + 1] w2 WF := by
      rw [hWF]
      exact six_oth ((Oth.refl _ _).setCell (p := ⟨w.heap.size, 5, none⟩) (.inl (by simp)) _) (.inl (by simp))
    have hof : Oth [] w WF := HO2.out.trans ho2f (fun q hq => by simp at hq; exact .inr (by omega))
    have hrdf := HRD2.out.oth ho2f (fun q hq => by
      rcases List.mem_append.1 hq with h | h
      · have := HV2.out q (by simpa using h)
        simp; omega
      · have := HB.out q h
        simp; omega)
    rw [hWF] at hrf hof hrdf
    refine bodyPost_ret (ret37 hrf) rfl ⟨_, _, rfl, hrdf, (fun q hq => ?_), hof⟩
    rcases List.mem_append.1 hq with h | h
    · have := HV2.out q (by simpa using h); exact .inr (by omega)
    · exact .inl h
end Go.Proofs.Ythllilkafdgheaa
