/- The walk of the reference's Give where it gives. Condition: the list reads as the arena's blocks. -/
import Derived.Test.YthllilkafdgheaaCf
import Derived.Test.YthllilkafdgheaaCfa
import Derived.Laws.MakeOwn
import Derived.Laws.OwnMore
namespace Go.Proofs.Ythllilkafdgheaa
open Go.RowKit
set_option linter.unusedVariables false
set_option linter.unusedSimpArgs false

/-- The state's cells in block sb. -/
def SC (sb : Nat) (sc sn sh sp sm : Nat) (v : Value) (W : World) : Prop := W.heap[sb]? = some (.cells #[.int .i64 sc, .int .i64 sn, .int .i64 sh, .int .i64 sp, .int .i64 sm, v] 55 (0, 0))
theorem SC.c {sb sc sn sh sp sm : Nat} {v : Value} {W : World} (h : SC sb sc sn sh sp sm v W) : W.cell? ⟨sb, 0, none⟩ = some (.int .i64 sc) ∧ W.cell? ⟨sb, 1, none⟩ = some (.int .i64 sn) ∧ W.cell? ⟨sb, 2, none⟩ = some (.int .i64 sh) ∧ W.cell? ⟨sb, 3, none⟩ = some (.int .i64 sp) ∧ W.cell? ⟨sb, 4, none⟩ = some (.int .i64 sm) ∧ W.cell? ⟨sb, 5, none⟩ = some v := by
  unfold SC at h
  refine ⟨?_, ?_, ?_, ?_, ?_, ?_⟩ <;> (simp only [World.cell?, h]; rfl)
theorem SC.f {sb sc sn sh sp sm : Nat} {v : Value} {W : World} (h : SC sb sc sn sh sp sm v W) (i : Nat) : W.frozen? ⟨sb, i, none⟩ = false := by
  unfold SC at h; simp [World.frozen?, h]

theorem twoG {w W : World} {t t' : TypeId} {a b : Array Value} (hW : W = (w.alloc (.cells a t)).alloc (.cells b t')) : Oth [] w W ∧ W.heap[w.heap.size]? = some (.cells a t (0, 0)) ∧ W.heap[w.heap.size + 1]? = some (.cells b t' (0, 0)) ∧ W.heap.size = w.heap.size + 2 := by
  subst hW
  refine ⟨((Oth.refl [] w).alloc _).alloc _, ?_, ?_, by simp⟩
  · rw [Below.heap_alloc _ _ _ (by simp)]; exact heap_alloc_new _ _
  · have := heap_alloc_new (w.alloc (.cells a t)) (.cells b t')
    rw [World.size_alloc] at this; exact this
/-- Behind the first append. -/
structure Mid (w : World) (B : List Nat) (sb sc sn sh sp smq : Nat) (v1 : Value) (Rq : List RB) (w6 : World) : Prop where
  s : ∃ b n c, SC sb sc (sn + 1) sh sp smq (.slice b n c) w6
  r : w6.heap[sb + 1]? = some (.cells #[.int .i64 0, .int .i64 0, .int .i64 0, .int .i64 0, .int .i64 0, .slice none 0 0] 55 (0, 0))
  o : Oth [] w w6
  own : w6.ownsRow w.heap.size 77 4 v1 Rq.length (rcs Rq)
  v : ∀ q, v1.ownBlock = some q → sb + 2 ≤ q
  rc : ∃ Bq, (∀ x, x ∈ Rq → RdC Bq x w6) ∧ (∀ b, b ∈ Bq → b ≠ sb ∧ b ≠ sb + 1 ∧ b < w6.heap.size ∧ v1.ownBlock ≠ some b) ∧ Fr B w Bq
/-- What is still to be done makes the arena's state. -/
structure Tl (s s' : St) (words fr smq : Nat) (Rq : List RB) : Prop where
  perm : (blks Rq ++ [({ h := s.next + 1, f := fr, n := words, d := List.replicate words 0 } : Blk)]).Perm s'.L
  cap : s'.cap = s.cap
  next : s'.next = s.next + 1
  high : s'.high = max s.high (fr + words)
  peak : s'.peak = max s.peak (s.live + words)
  moves : s'.moves = smq
  len : Rq.length ≤ 999
  sum : sumN (blks Rq) = s.live
  fit : fr + words ≤ s.cap
  bn : ∀ x, x ∈ Rq → x.b.n ≤ 16777216
theorem SC.set1 {sb sc sn sh sp sm k : Nat} {v : Value} {W : World} (h : SC sb sc sn sh sp sm v W) : SC sb sc k sh sp sm v (W.setCell ⟨sb, 1, none⟩ (.int .i64 k)) := by
  unfold SC at h ⊢
  simp [World.setCell, Array.getElem?_modify, h]

theorem mid_of {w w4 w6 : World} {B Bq : List Nat} {sb sc sn sh sp smq q : Nat} {b : Option Addr} {n c : Nat} {v1 : Value} {Rq : List RB} {xs : List Value} {row : Option Nat} (hO : Oth [] w w4) (hsb : sb = w.heap.size) (hS : SC sb sc sn sh sp smq (.slice b n c) w4)
    (hrb : w4.heap[sb + 1]? = some (.cells #[.int .i64 0, .int .i64 0, .int .i64 0, .int .i64 0, .int .i64 0, .slice none 0 0] 55 (0, 0))) (hR : ∀ x, x ∈ Rq → RdC Bq x w4) (hBq : ∀ b, b ∈ Bq → b ≠ sb ∧ b ≠ sb + 1 ∧ b < w4.heap.size) (hFr : Fr B w Bq)
    (hown : w6.ownsRow w.heap.size 77 4 v1 q xs) (hq : q = Rq.length) (hxs : xs = rcs Rq) (hgrow : (w4.setCell ⟨sb, 1, none⟩ (.int .i64 ((sn : Int) + 1))).grownBy w6 row) (hrow : row = none) (hv : ∀ q, v1.ownBlock = some q → w4.heap.size ≤ q) : Mid w B sb sc sn sh sp smq v1 Rq w6 := by
  subst hq; subst hxs; subst hrow
  have h45 : Oth [sb] w4 (w4.setCell ⟨sb, 1, none⟩ (.int .i64 ((sn : Int) + 1))) := (Oth.refl _ _).setCell (p := ⟨sb, 1, none⟩) (.inl (by simp)) _
  have h46 : Oth [sb] w4 w6 := h45.grown hgrow (fun k hk => by cases hk)
  have h56 : Oth [] (w4.setCell ⟨sb, 1, none⟩ (.int .i64 ((sn : Int) + 1))) w6 := (Oth.refl _ _).grown hgrow (fun k hk => by cases hk)
  have hS5 : SC sb sc (sn + 1) sh sp smq (.slice b n c) (w4.setCell ⟨sb, 1, none⟩ (.int .i64 ((sn : Int) + 1))) := by
    have := hS.set1 (k := sn + 1)
    rw [Int.natCast_add] at this; exact this
  refine ⟨⟨b, n, c, h56.heap hS5 (by simp)⟩, h46.heap hrb (by simp), hO.trans h46 (fun k hk => by simp at hk; subst hk; exact .inr (by omega)), hown, (fun q hq => by have := hv q hq; have := lt_of_block hrb; omega), Bq, fun x hx => (hR x hx).oth h46 (fun k hk => by have := hBq k hk; simp; omega), fun b hb => ?_, hFr⟩
  obtain ⟨h1, h2, h3⟩ := hBq b hb
  exact ⟨h1, h2, Nat.lt_of_lt_of_le h3 h46.size, fun e => by have := hv b e; omega⟩
theorem sumN_comp : ∀ (L : List Blk) (t : Nat), sumN (comp t L) = sumN L
  | [], _ => rfl
  | b :: r, t => by simp only [comp, sumN_cons]; rw [sumN_comp r]
theorem perm_ins {R M : List Blk} {x : Blk} {i : Nat} (h : R.Perm M) : (R ++ [x]).Perm (M.take i ++ x :: M.drop i) := by
  have h1 : (R ++ [x]).Perm (x :: R) := List.perm_append_comm (l₁ := R) (l₂ := [x])
  have h2 : (x :: R).Perm (x :: M) := h.cons x
  have h3 : (M.take i ++ x :: M.drop i).Perm (x :: (M.take i ++ M.drop i)) := List.perm_middle
  rw [List.take_append_drop] at h3
  exact (h1.trans h2).trans h3.symm

/-- Behind the second append. -/
structure Aft (w : World) (B : List Nat) (sb : Nat) (v2 : Value) (R' : List RB) (W : World) : Prop where
  r : W.heap[sb + 1]? = some (.cells #[.int .i64 0, .int .i64 0, .int .i64 0, .int .i64 0, .int .i64 0, .slice none 0 0] 55 (0, 0))
  o : Oth [] w W
  rd : ∃ B', RdR B' v2 R' W ∧ (∀ b, b ∈ B' → b ≠ sb ∧ b ≠ sb + 1) ∧ Fr B w B'
theorem Aft.set {w : World} {B : List Nat} {sb : Nat} {v2 : Value} {R' : List RB} {W W' : World} (h : Aft w B sb v2 R' W) (ho : Oth [sb] W W') (hw : w.heap.size ≤ sb) : Aft w B sb v2 R' W' := by
  obtain ⟨B', h1, h2, h3⟩ := h.rd
  exact ⟨ho.heap h.r (by simp), h.o.trans ho (fun k hk => by simp at hk; subst hk; exact .inr hw), B', h1.oth ho (fun k hk => by have := h2 k hk; simp; omega), h2, h3⟩
/-- The block that is new. -/
def newRB (sn fr words gz : Nat) : RB := ⟨⟨sn + 1, fr, words, List.replicate words 0⟩, some ⟨gz, 0, none⟩, words⟩
theorem aft_of {w w7 : World} {B : List Nat} {sb sn fr words gz q : Nat} {v2 : Value} {Rq : List RB} (hsb : sb = w.heap.size) (hw : words ≤ 65536)
    (hr : w7.heap[sb + 1]? = some (.cells #[.int .i64 0, .int .i64 0, .int .i64 0, .int .i64 0, .int .i64 0, .slice none 0 0] 55 (0, 0))) (ho : Oth [] w w7)
    (hown : w7.ownsRow w.heap.size 77 4 v2 q (rcs Rq ++ [.int .i64 ((sn : Int) + 1), .int .i64 fr, .int .i64 words, .slice (some ⟨gz, 0, none⟩) words words])) (hq : q = Rq.length + 1) (hv : ∀ q, v2.ownBlock = some q → sb + 2 ≤ q)
    (hm : ∃ Bz, (∀ x, x ∈ Rq → RdC Bz x w7) ∧ (∀ b, b ∈ Bz → b ≠ sb ∧ b ≠ sb + 1) ∧ Fr B w Bz) (hz : w7.heap[gz]? = some (.cells (madeCells #[.int .i64 0] words) 2 (0, 0)) ∧ sb + 2 ≤ gz) :
    Aft w B sb v2 (Rq ++ [newRB sn fr words gz]) w7 := by
  obtain ⟨Bz, m1, m2, m3⟩ := hm
  refine ⟨hr, ho, v2.ownBlock.toList ++ (gz :: Bz), ?_, fun b hb => ?_, fun b hb => ?_⟩
  · refine rdr_of_owns (B0 := w.heap.size) (n := q) ?_ (by simp; omega) (fun x hx => ?_)
    · have hc : rcs (Rq ++ [newRB sn fr words gz]) = rcs Rq ++ [.int .i64 ((sn : Int) + 1), .int .i64 fr, .int .i64 words, .slice (some ⟨gz, 0, none⟩) words words] := by
        rw [rcs_append]; simp [rcs, newRB]
      rw [hc]; exact hown
    · rcases List.mem_append.1 hx with h | h
      · exact (m1 x h).sub (fun k hk => by simp [hk])
      · simp at h; subst h
        refine ⟨⟨rfl, by simp [newRB, maxLen]; omega, fun k hk => ?_, fun i k hk => ⟨gz, 0, rfl, ?_⟩⟩, fun ad had => ?_⟩
        · have : k = 0 := by simp [newRB, List.mem_replicate] at hk; exact hk.2
          subst this; decide
        · have hk' : (madeCells #[Value.int .i64 0] words).toList[i]? = some (.int .i64 k) := by
            rw [toList_madeCells_one]
            simp only [newRB] at hk
            rw [List.getElem?_replicate] at hk ⊢
            split at hk
            · simp at hk; subst hk; rw [if_pos (by assumption)]
            · cases hk
          rw [Array.getElem?_toList] at hk'
          simp only [World.cell?, hz.1, Nat.zero_add]; exact hk'
        · simp [newRB] at had; subst had; simp
  · rcases List.mem_append.1 hb with h | h
    · have := hv b (by simpa using h); omega
    · rcases List.mem_cons.1 h with rfl | h
      · omega
      · exact m2 b h
  · rcases List.mem_append.1 hb with h | h
    · have := hv b (by simpa using h); exact .inr (by omega)
    · rcases List.mem_cons.1 h with rfl | h
      · exact .inr (by omega)
      · exact m3 b h
theorem SC.set5 {sb sc sn sh sp sm : Nat} {v v' : Value} {W : World} (h : SC sb sc sn sh sp sm v W) : SC sb sc sn sh sp sm v' (W.setCell ⟨sb, 5, none⟩ v') := by
  unfold SC at h ⊢
  simp [World.setCell, Array.getElem?_modify, h]
theorem SC.set2 {sb sc sn sh sp sm k : Nat} {v : Value} {W : World} (h : SC sb sc sn sh sp sm v W) : SC sb sc sn k sp sm v (W.setCell ⟨sb, 2, none⟩ (.int .i64 k)) := by
  unfold SC at h ⊢
  simp [World.setCell, Array.getElem?_modify, h]
theorem SC.set3 {sb sc sn sh sp sm k : Nat} {v : Value} {W : World} (h : SC sb sc sn sh sp sm v W) : SC sb sc sn sh k sm v (W.setCell ⟨sb, 3, none⟩ (.int .i64 k)) := by
  unfold SC at h ⊢
  simp [World.setCell, Array.getElem?_modify, h]
theorem SC.set4 {sb sc sn sh sp sm k : Nat} {v : Value} {W : World} (h : SC sb sc sn sh sp sm v W) : SC sb sc sn sh sp k v (W.setCell ⟨sb, 4, none⟩ (.int .i64 k)) := by
  unfold SC at h ⊢
  simp [World.setCell, Array.getElem?_modify, h]

theorem fin36 {w WF : World} {B : List Nat} {sb sc snq shq spq smq : Nat} {b2 : Option Addr} {n2 c2 : Nat} {R' : List RB} {s' : St} (hsb : sb = w.heap.size) (hA : Aft w B sb (.slice b2 n2 c2) R' WF) (e1 : s'.cap = sc) (e2 : s'.next = snq) (e3 : s'.high = shq) (e4 : s'.peak = spq) (e5 : s'.moves = smq) (hp : (blks R').Perm s'.L) :
    (six WF (sb + 1) (.int .i64 sc) (.int .i64 snq) (.int .i64 shq) (.int .i64 spq) (.int .i64 smq) (.slice b2 n2 c2)).heap[sb + 1]? = some (.cells #[.int .i64 sc, .int .i64 snq, .int .i64 shq, .int .i64 spq, .int .i64 smq, .slice b2 n2 c2] 55 (0, 0)) ∧
    ∃ v B' R'', Ending.returned (.tuple #[.agg #[.int .i64 sc, .int .i64 snq, .int .i64 shq, .int .i64 spq, .int .i64 smq, .slice b2 n2 c2], .int .i64 0]) = .returned (.tuple #[.agg #[.int .i64 s'.cap, .int .i64 s'.next, .int .i64 s'.high, .int .i64 s'.peak, .int .i64 s'.moves, v], .int .i64 0]) ∧ RdR B' v R'' (six WF (sb + 1) (.int .i64 sc) (.int .i64 snq) (.int .i64 shq) (.int .i64 spq) (.int .i64 smq) (.slice b2 n2 c2)) ∧ (blks R'').Perm s'.L ∧ Fr B w B' ∧ Oth [] w (six WF (sb + 1) (.int .i64 sc) (.int .i64 snq) (.int .i64 shq) (.int .i64 spq) (.int .i64 smq) (.slice b2 n2 c2)) := by
  obtain ⟨B', h1, h2, h3⟩ := hA.rd
  have ho : Oth [sb + 1] WF (six WF (sb + 1) (.int .i64 sc) (.int .i64 snq) (.int .i64 shq) (.int .i64 spq) (.int .i64 smq) (.slice b2 n2 c2)) := six_oth (Oth.refl _ _) (.inl (by simp))
  refine ⟨six_heap hA.r, _, B', R', by rw [e1, e2, e3, e4, e5], h1.oth ho (fun k hk => by have := h2 k hk; simp; omega), hp, h3, hA.o.trans ho (fun k hk => by simp at hk; subst hk; exact .inr (by omega))⟩
theorem Aft.cells {w : World} {B : List Nat} {sb : Nat} {v2 : Value} {R' : List RB} {W : World} (h : Aft w B sb v2 R' W) : (W.cell? ⟨sb + 1, 0, none⟩ = some (.int .i64 0) ∧ W.cell? ⟨sb + 1, 1, none⟩ = some (.int .i64 0) ∧ W.cell? ⟨sb + 1, 2, none⟩ = some (.int .i64 0) ∧ W.cell? ⟨sb + 1, 3, none⟩ = some (.int .i64 0) ∧ W.cell? ⟨sb + 1, 4, none⟩ = some (.int .i64 0) ∧ W.cell? ⟨sb + 1, 5, none⟩ = some (.slice none 0 0)) ∧ ∀ i, W.frozen? ⟨sb + 1, i, none⟩ = false := by
  have := h.r
  refine ⟨⟨?_, ?_, ?_, ?_, ?_, ?_⟩, fun i => by simp [World.frozen?, this]⟩ <;> (simp only [World.cell?, this]; rfl)
theorem Tl.fin {s s' : St} {words fr smq sn gz : Nat} {Rq : List RB} (h : Tl s s' words fr smq Rq) (hn : sn = s.next) : (blks (Rq ++ [newRB sn fr words gz])).Perm s'.L := by
  have := h.perm
  unfold blks at this ⊢
  rw [List.map_append]
  subst hn
  exact this

set_option maxHeartbeats 8000000 in
set_option maxRecDepth 100000 in
theorem Give_ref (B : List Nat) (s s' : St) (words : Nat) (base : Option Addr) (n cap : Nat) (R : List RB) (w : World) (hR : RdR B (.slice base n cap) R w) (hp : (blks R).Perm s.L) (hg : Good s) (hgv : Given s words s') (h1 : 1 ≤ words) (h2 : words ≤ 65536) (h3 : s.live + words ≤ s.cap) (hnx : s.next < 1000) (hB : ∀ b, b ∈ B → b < w.heap.size) :
    Calls Try.prog 36 #[sval s (.slice base n cap), .int .i64 words] w fun e w' => ∃ v B' R', e = .returned (.tuple #[sval s' v, .int .i64 0]) ∧ RdR B' v R' w' ∧ (blks R').Perm s'.L ∧ Fr B w B' ∧ Oth [] w w' := by
  obtain ⟨i0, hi, hz0, hz1, hz2⟩ := info_parts Try.info77
  have hlen : n ≤ 1000 := by
    have h4 := hp.length_eq
    rw [blks_length] at h4
    have := hR.parts.1
    have := hg.cnt
    omega
  have hsum : sumN (blks R) = s.live := by
    rw [hg.live]; unfold sumN; exact (hp.map _).sum_nat
  have hbn : ∀ x, x ∈ R → x.b.f ≤ 16777216 ∧ x.b.n ≤ 16777216 := fun x hx => by
    have h4 := hg.blk x.b (hp.subset (List.mem_map_of_mem hx))
    have := hg.high
    have := hg.cap
    omega
  have hpk := hg.peak
  have hcp := hg.cap
  have hmv := hg.mv
  have hhi := hg.high
  have HL := Lib.hid (fun W (ho : Oth [] w W) => Live_ref B s base n cap R W (hR.quiet ho) hR.parts.1 hlen (fun x hx => (hbn x hx).2))
  have HPL := Lib.hid (fun W (ho : Oth [] w W) => (place_ref B s words base n cap R W (hR.quiet ho) hR.parts.1 hlen hbn hg.cap h1 (by omega)).mono (fun e w' he => (⟨place_at hg hgv h1 h3 hp he.1, he.2⟩ : _ ∧ _)))
  rw [hsum] at HL
  unfold sval at HL HPL
  unfold sval
  obtain ⟨sl, hsl⟩ : ∃ a, a = s.live := ⟨_, rfl⟩
  obtain ⟨sc, hsc⟩ : ∃ a, a = s.cap := ⟨_, rfl⟩
  obtain ⟨sn, hsn⟩ : ∃ a, a = s.next := ⟨_, rfl⟩
  obtain ⟨sh, hsh⟩ : ∃ a, a = s.high := ⟨_, rfl⟩
  obtain ⟨sp, hsp⟩ : ∃ a, a = s.peak := ⟨_, rfl⟩
  obtain ⟨sm, hsm⟩ : ∃ a, a = s.moves := ⟨_, rfl⟩
  have HE : Hid (sl = s.live ∧ sc = s.cap ∧ sn = s.next ∧ sh = s.high ∧ sp = s.peak ∧ sm = s.moves) := ⟨hsl, hsc, hsn, hsh, hsp, hsm⟩
  rw [← hsl, ← hsc, ← hsn, ← hsh, ← hsp, ← hsm] at HL
  rw [← hsc, ← hsn, ← hsh, ← hsp, ← hsm] at HPL
  rw [← hsl, ← hsc] at h3
  rw [← hsl, ← hsp, ← hsc] at hpk
  rw [← hsc] at hcp
  rw [← hsn] at hnx
  rw [← hsm, ← hsn] at hmv
  rw [← hsh, ← hsc] at hhi
  rw [← hsc, ← hsn, ← hsh, ← hsp, ← hsm]
  have t1 : ¬ (words : Int) < 1 := by omega
  have t2 : ¬ (65536 : Int) < (words : Int) := by omega
  have t3 : ¬ (sc : Int) < (sl : Int) + (words : Int) := by omega
  have t4 : IntKind.i64.wrap ((sl : Int) + (words : Int)) = (sl : Int) + (words : Int) := by rw [IntKind.wrap_i64]; omega
  have HR := Lib.hid hR
  have HP := Lib.hid hp
  have HG := Lib.hid hg
  have HGV := Lib.hid hgv
  have HB := Lib.hid hB
  have HSUM := Lib.hid hsum
  have HBN := Lib.hid hbn
  clear hR hp hg hgv hB hsum hbn hsl hsc hsn hsh hsp hsm
  go_enter Try.func36, Try.ntmps36
  go_wp2_with fail
  obtain ⟨W1, hW1⟩ : ∃ W1, W1 = (w.alloc (.cells #[.int .i64 sc, .int .i64 sn, .int .i64 sh, .int .i64 sp, .int .i64 sm, .slice base n cap] 55)).alloc (.cells #[.int .i64 0, .int .i64 0, .int .i64 0, .int .i64 0, .int .i64 0, .slice none 0 0] 55) := ⟨_, rfl⟩
  obtain ⟨o1, k1, k2, k3⟩ := two hW1
  rw [← hW1]
  obtain ⟨sb, hsb⟩ : ∃ sb, sb = w.heap.size := ⟨_, rfl⟩
  rw [← hsb] at k1 k2 k3 ⊢
  have HK1 : Hid (SC sb sc sn sh sp sm (.slice base n cap) W1) := k1
  have HK2 := Lib.hid k2
  have HO1 := Lib.hid o1
  have HSB : Hid (sb = w.heap.size) := hsb
  have HLC : Hid (∀ W, Oth [] W1 W → Calls Try.prog 38 #[.agg #[.int .i64 sc, .int .i64 sn, .int .i64 sh, .int .i64 sp, .int .i64 sm, .slice base n cap]] W fun e w' => e = .returned (.int .i64 sl) ∧ w'.cell? ⟨sb, 0, none⟩ = some (.int .i64 sc) ∧ w'.cell? ⟨sb, 1, none⟩ = some (.int .i64 sn) ∧ w'.cell? ⟨sb, 2, none⟩ = some (.int .i64 sh) ∧ w'.cell? ⟨sb, 3, none⟩ = some (.int .i64 sp) ∧ w'.cell? ⟨sb, 4, none⟩ = some (.int .i64 sm) ∧ w'.cell? ⟨sb, 5, none⟩ = some (.slice base n cap) ∧ Hid (Oth [] W1 w')) := by
    intro W hW
    refine (HL.out W (o1.trans hW (Fr.nil _ _))).mono ?_
    rintro e w' ⟨rfl, ho⟩
    have hz := hW.trans ho (Fr.nil _ _)
    have hs : SC sb sc sn sh sp sm (.slice base n cap) w' := hz.heap k1 (by simp)
    obtain ⟨c0, c1, c2, c3, c4, c5⟩ := hs.c
    exact ⟨rfl, c0, c1, c2, c3, c4, c5, hz⟩
  obtain ⟨s0, s1, s2, s3, s4, s5⟩ := HK1.out.c
  clear hW1 k1 k2 k3 hsb HL o1
  go_region_held3 (fun w' => w'.cell? ⟨sb, 0, none⟩ = some (.int .i64 sc) ∧ w'.cell? ⟨sb, 1, none⟩ = some (.int .i64 sn) ∧ w'.cell? ⟨sb, 2, none⟩ = some (.int .i64 sh) ∧ w'.cell? ⟨sb, 3, none⟩ = some (.int .i64 sp) ∧ w'.cell? ⟨sb, 4, none⟩ = some (.int .i64 sm) ∧ w'.cell? ⟨sb, 5, none⟩ = some (.slice base n cap)) (first | exact ⟨s0, s1, s2, s3, s4, s5⟩ | exact ⟨u0, u1, u2, u3, u4, u5⟩)
    (first | (go_at_call 38; refine (HLC.out _ ?_).mono ?_; exact (Oth.refl _ _).drew; rintro e w3 ⟨rfl, u0, u1, u2, u3, u4, u5, HF⟩))
  go_wp2_with fail
  refine (HPL.out _ (HO1.out.trans HF.out (Fr.nil _ _))).mono ?_
  rintro e w4 ⟨he, ho4⟩
  have HF4 : Hid (Oth [] W1 w4) := HF.out.trans ho4 (Fr.nil _ _)
  clear ho4 HF s0 s1 s2 s3 s4 s5 u0 u1 u2 u3 u4 u5
  rcases he with ⟨i, pk, rfl, hil, hfit, hs'⟩ | ⟨rfl, hs'⟩
  case' inl =>
    obtain ⟨fr, hfr⟩ : ∃ a, a = E s.L i := ⟨_, rfl⟩
    rw [← hfr] at hfit ⊢
    have HS' := Lib.hid hs'
    have HFR := Lib.hid hfr
    have q1 : ¬ (fr : Int) < 0 := by omega
    have q2 : sn + 1 ≤ 1000 := by omega
    have hk4 : SC sb sc sn sh sp sm (.slice base n cap) w4 := HF4.out.heap HK1.out (by simp)
    obtain ⟨s0, s1, s2, s3, s4, s5⟩ := hk4.c
    have f0 := hk4.f 1
    have w1 : IntKind.i64.wrap ((sn : Int) + 1) = (sn : Int) + 1 := by rw [IntKind.wrap_i64]; omega
    clear hs' hfr hk4
    have hsz4 := HF4.out.size
    go_wp2_with (at_builtin; refine wpList_append_rd _ rfl _ _ 53 rfl w.heap.size 77 i0 _ 4 48 Try.underlying53 hi hz0 hz1 hz2 rfl (by decide) _ 0 [] rfl ⟨rfl, .inl ⟨rfl, rfl⟩⟩ base n cap (rcs R) rfl ?a1 ?a2 (rcs_one _) ?a4 ?a5 ?a6 ?_)
    case a1 => rw [rcs_length, HR.out.parts.1]
    case a2 =>
      intro j u hu
      obtain ⟨g, off, hb, hgB, hc⟩ := HR.out.parts.2.2.2.1 j u hu
      refine ⟨g, off, hb, ?_⟩
      have hgl := HB.out g hgB
      have := (HO1.out.trans HF4.out (Fr.nil _ _)).cell hc (by simp)
      rw [World.cell?_of_block (w := w4) (Below.heap_setCell _ _ _ _ (by rw [HSB.out]; simp; omega))]
      exact this
    case a4 => unfold maxLen; omega
    case a5 => omega
    case a6 => have := (HO1.out.trans HF4.out (Fr.nil _ _)).size; simpa [World.setCell] using this
    intro v1 w6 hown1 hgrow1 hat1
    have HMID : Hid (Mid w B sb sc sn sh sp sm v1 R w6) := by
      refine mid_of (HO1.out.trans HF4.out (Fr.nil _ _)) HSB.out (HF4.out.heap HK1.out (by simp)) (HF4.out.heap HK2.out (by simp)) (fun x hx => (HR.out.parts.2.2.2.2 x hx).oth (HO1.out.trans HF4.out (Fr.nil _ _)) (by simp)) (fun b hb => ?_) (Fr.refl _ _) hown1 (by have := HR.out.parts.1; omega) rfl hgrow1 rfl (fun q hq => ?_)
      · have := HB.out b hb
        have h5 := (HO1.out.trans HF4.out (Fr.nil _ _)).size
        have h6 := HSB.out
        exact ⟨by omega, by omega, by omega⟩
      · have h7 := lt_of_block (HF4.out.heap HK2.out (by simp))
        rcases hat1 with h | h
        · rw [hq] at h; cases h
        · rw [hq] at h
          simp [World.setCell] at h
          omega
    have HTL : Hid (Tl s s' words fr sm R) := by
      obtain ⟨e1, e2, e3, e4, e5, e6⟩ := HE.out
      rw [HS'.out]
      refine ⟨?_, rfl, rfl, ?_, rfl, by first | rfl | exact e6.symm, by have h9 := HP.out.length_eq; rw [blks_length] at h9; have := HG.out.cntn; omega, by rw [HSUM.out], by rw [← e2]; omega, fun x hx => (HBN.out x hx).2⟩
      · simp only [placed]
        rw [HFR.out]
        exact perm_ins HP.out
      · simp only [placed]; rw [HFR.out]
    obtain ⟨Rq, hRq⟩ : ∃ Rq, Rq = R := ⟨_, rfl⟩
    obtain ⟨smq, hsmq⟩ : ∃ smq, smq = sm := ⟨_, rfl⟩
    rw [← hRq, ← hsmq] at HMID
    rw [← hRq, ← hsmq] at HTL
    clear hRq hsmq
    clear hown1 hgrow1 hat1
  case' inr =>
    obtain ⟨T, hT, hTb, hTp⟩ := srtOf HG.out HP.out
    have HS' := Lib.hid hs'
    have HTB := Lib.hid hTb
    have HTP := Lib.hid hTp
    have hTn : T.length = n := by rw [hTp.length_eq, HR.out.parts.1]
    have HTN := Lib.hid hTn
    have hk4 : SC sb sc sn sh sp sm (.slice base n cap) w4 := HF4.out.heap HK1.out (by simp)
    obtain ⟨s0, s1, s2, s3, s4, s5⟩ := hk4.c
    have HO4 : Hid (Oth [] w w4) := HO1.out.trans HF4.out (Fr.nil _ _)
    have HSO := Lib.hid (Sorted_ref B base n cap R T w4 (HR.out.quiet HO4.out) hlen hT (fun x hx => (HBN.out x hx).1))
    have HK4 := Lib.hid hk4
    have HSZ : Hid (sb + 2 ≤ w4.heap.size) := lt_of_block (HF4.out.heap HK2.out (by simp))
    clear hs' hT hTb hTp hk4 hTn
    go_wp2_with fail
    refine HSO.out.mono ?_
    rintro e w5 ⟨v5, rfl, hown5, ho5⟩
    obtain ⟨bt, ct, rfl, _⟩ := owns_slice4 hown5
    have HO5 := Lib.hid ho5
    have HW5 := Lib.hid hown5
    clear hown5 ho5 s0 s1 s2 s3 s4 s5 HSO
    go_wp2_with fail
    go_loopw [8, 9] (fun a x wr => ∃ i : Nat, i ≤ n ∧ x = .int .i64 i ∧ a = .int .i64 (sumN (s.L.take i) : Nat) ∧ Hid (wr.ownsRow w4.heap.size 77 4 (.slice bt n ct) n (rcs (midR T i))) ∧ Hid (Oth (Value.ownBlock (.slice bt n ct)).toList w5 wr)) (fun _ x _ => (n - intOf x).toNat)
    case' atStart => exact ⟨0, by omega, rfl, rfl, by rw [midR_zero]; exact HW5, Oth.refl _ _⟩
    case' round =>
      obtain ⟨i, hin, rfl, rfl, hown, ho⟩ := hrel
      by_cases hlt : i < n
      case pos =>
        have u1 : (i : Int) < (n : Int) := by omega
        obtain ⟨gt, ct', hbe, hgt, hrow⟩ := row_of_owns hown.out (by omega)
        injection hbe with e1 e2 e3
        subst e1; subst e3
        obtain ⟨x, hx⟩ : ∃ x, T[i]? = some x := ⟨_, List.getElem?_eq_getElem (by have := HTN.out; omega)⟩
        obtain ⟨_, r1, r2, _⟩ := rcs_get _ i x (midR_get hx)
        have d1 := hrow.cell r1
        have d2 := hrow.cell r2
        have f1 := hrow.free (i * 4 + 1)
        have hxb := HBN.out x (HTP.out.subset (List.mem_of_getElem? hx))
        have hbx : s.L[i]? = some x.b := by rw [← HTB.out]; exact blks_get hx
        have HSN : Hid (sumN (s.L.take (i + 1)) = sumN (s.L.take i) + x.b.n) := sumN_take_succ hbx
        have hsb : sumN (s.L.take i) ≤ i * 16777216 := by
          have := sumN_boundC (M := s.L.take i) (B := 16777216) (fun y hy => by
            have h8 := (HG.out.blk y (List.mem_of_mem_take hy)).2.1
            have := HG.out.high
            have := HG.out.cap
            omega)
          rw [List.length_take] at this
          exact Nat.le_trans this (Nat.mul_le_mul_right _ (Nat.min_le_left _ _))
        have HRM : Hid (rcs (midR T (i + 1)) = (rcs (midR T i)).set (i * 4 + 1) (.int .i64 (sumN (s.L.take i) : Nat))) := by
          have := rcs_mid hx
          rw [HTB.out] at this; exact this
        obtain ⟨sv, hsv⟩ : ∃ a, a = sumN (s.L.take i) := ⟨_, rfl⟩
        obtain ⟨xn, hxn⟩ : ∃ a, a = x.b.n := ⟨_, rfl⟩
        rw [← hsv] at HSN hsb HRM ⊢
        rw [← hxn] at HSN hxb d2
        have t5 : IntKind.i64.wrap ((sv : Int) + (xn : Int)) = (sv : Int) + (xn : Int) := by rw [IntKind.wrap_i64]; omega
        have HO1' : Hid ((wr.setCell ⟨gt, i * 4 + 1, none⟩ (.int .i64 (sv : Int))).ownsRow w4.heap.size 77 4 (.slice (some ⟨gt, 0, none⟩) n ct) n (rcs (midR T (i + 1)))) := by
          rw [HRM.out]; exact owns_set hown.out _ _ (by omega)
        have HO2' : Hid (Oth (Value.ownBlock (.slice (some ⟨gt, 0, none⟩) n ct)).toList w5 (wr.setCell ⟨gt, i * 4 + 1, none⟩ (.int .i64 (sv : Int)))) := ho.out.setCell (p := ⟨gt, i * 4 + 1, none⟩) (.inl (by simp [Value.ownBlock])) _
        clear hx hsv hxn r1 r2 hrow hbx e2 hgt
        go_wp2_with fail
        go_roundw
        case rel => exact ⟨i + 1, by omega, by go_num, by rw [HSN.out]; congr 1, HO1', HO2'⟩
        case measure => simp [intOf]; omega
      case' neg =>
        obtain rfl : i = n := by omega
        have u1 : ¬ (i : Int) < (i : Int) := by omega
        have hob : ∀ q, Value.ownBlock (.slice bt i ct) = some q → w4.heap.size ≤ q := fun q hq => (hown.out.lt q hq).1
        have hsw := HSZ.out
        have hKr : SC sb sc sn sh sp sm (.slice base i cap) wr := ho.out.heap (HO5.out.heap HK4.out (by simp)) (fun hm => by have := hob sb (by simpa using hm); omega)
        have hRr : wr.heap[sb + 1]? = some (.cells #[.int .i64 0, .int .i64 0, .int .i64 0, .int .i64 0, .int .i64 0, .slice none 0 0] 55 (0, 0)) := ho.out.heap (HO5.out.heap (HF4.out.heap HK2.out (by simp)) (by simp)) (fun hm => by have := hob (sb + 1) (by simpa using hm); omega)
        have oR : Oth [] w wr := (HO4.out.trans HO5.out (Fr.nil _ _)).trans ho.out (fun q hq => by have := hob q (by simpa using hq); have := HO4.out.size; exact .inr (by omega))
        obtain ⟨s0, s1, s2, s3, s4, s5⟩ := hKr.c
        have f5 := hKr.f 5
        have f4 := hKr.f 4
        have f1 := hKr.f 1
        have z1 : IntKind.i64.wrap ((sm : Int) + 1) = (sm : Int) + 1 := by rw [IntKind.wrap_i64]; omega
        have z2 : IntKind.i64.wrap ((sn : Int) + 1) = (sn : Int) + 1 := by rw [IntKind.wrap_i64]; omega
        have hLl : s.L.length = i := by rw [← HTB.out, blks_length, HTN.out]
        obtain ⟨fr, hfr⟩ : ∃ a, a = sumN (s.L.take i) := ⟨_, rfl⟩
        rw [← hfr]
        rw [List.take_of_length_le (by omega)] at hfr
        have HFR := Lib.hid hfr
        have hown2 := hown.out
        rw [show midR T i = compR 0 T by rw [← HTN.out]; exact midR_all T] at hown2
        have HOWN2 := Lib.hid hown2
        have HKR := Lib.hid hKr
        have HRR := Lib.hid hRr
        have HOR := Lib.hid oR
        have HOB := Lib.hid hob
        have HLL := Lib.hid hLl
        clear hfr hown hown2 hKr hRr oR hob hLl ho
        go_wp2_with (at_builtin; refine wpList_append_rd _ rfl _ _ 53 rfl w.heap.size 77 i0 _ 4 48 Try.underlying53 hi hz0 hz1 hz2 rfl (by decide) _ 0 [] rfl ⟨rfl, .inl ⟨rfl, rfl⟩⟩ bt i ct (rcs (compR 0 T)) rfl ?a1 ?a2 (rcs_one _) ?a4 ?a5 ?a6 ?_)
        case a1 => rw [rcs_length, compR_length, HTN.out]
        case a2 =>
          intro j u hu
          have hj := (List.getElem?_eq_some_iff.1 hu).1
          rw [rcs_length, compR_length, HTN.out] at hj
          obtain ⟨gt, ct', hbe, hgt, hrow⟩ := row_of_owns HOWN2.out (by omega)
          injection hbe with e1 e2 e3
          subst e1
          refine ⟨gt, 0, rfl, ?_⟩
          have hsw2 := HSZ.out
          have hne : gt ≠ sb := by omega
          rw [Nat.zero_add, World.cell?_of_block (w := wr) (((Below.heap_setCell _ _ _ _ hne).trans (Below.heap_setCell _ _ _ _ hne)).trans (Below.heap_setCell _ _ _ _ hne))]
          exact hrow.cell hu
        case a4 => unfold maxLen; omega
        case a5 => omega
        case a6 => have := HOR.out.size; simpa [World.setCell] using this
        intro v1 w6 hown1 hgrow1 hat1
        have HMID : Hid (Mid w B sb sc sn sh sp (sm + 1) v1 (compR 0 T) w6) := by
          have hsw2 := HSZ.out
          have hw4 := HO4.out.size
          have oQ : Oth [] w ((wr.setCell ⟨sb, 5, none⟩ (.slice bt i ct)).setCell ⟨sb, 4, none⟩ (.int .i64 ((sm : Int) + 1))) := (HOR.out.setCell (p := ⟨sb, 5, none⟩) (.inr (by rw [HSB.out]; exact Nat.le_refl _)) _).setCell (p := ⟨sb, 4, none⟩) (.inr (by rw [HSB.out]; exact Nat.le_refl _)) _
          have hS5 : SC sb sc sn sh sp (sm + 1) (.slice bt i ct) ((wr.setCell ⟨sb, 5, none⟩ (.slice bt i ct)).setCell ⟨sb, 4, none⟩ (.int .i64 ((sm : Int) + 1))) := by
            have := (HKR.out.set5 (v' := .slice bt i ct)).set4 (k := sm + 1)
            rw [Int.natCast_add] at this; exact this
          refine mid_of oQ HSB.out hS5 ((Below.heap_setCell _ _ _ _ (by simp)).trans ((Below.heap_setCell _ _ _ _ (by simp)).trans HRR.out)) (compR_rc T 0 (fun x hx => (HR.out.parts.2.2.2.2 x (HTP.out.subset hx)).oth oQ (by simp))) (fun b hb => ?_) (Fr.refl _ _) hown1 (by rw [compR_length, HTN.out]) rfl hgrow1 rfl (fun q hq => ?_)
          · have h5 := HB.out b hb
            have h6 := HSB.out
            have h7 := oQ.size
            exact ⟨by omega, by omega, by omega⟩
          · rcases hat1 with h | h
            · rw [hq] at h; cases h
            · rw [hq] at h
              simp at h
              simp [World.setCell]; omega
        have HTL : Hid (Tl s s' words fr (sm + 1) (compR 0 T)) := by
          obtain ⟨e1, e2, e3, e4, e5, e6⟩ := HE.out
          have hbc : blks (compR 0 T) = comp 0 s.L := by rw [blks_compR, HTB.out]
          have hEc : E (comp 0 s.L) s.L.length = fr := by rw [E_comp, HFR.out]
          have hfl : fr = s.live := by rw [HFR.out, HG.out.live]
          rw [HS'.out]
          refine ⟨?_, rfl, rfl, ?_, rfl, by first | (simp only [placed]; done) | (simp only [placed]; omega), ?_, ?_, by rw [← e2]; omega, fun x hx => ?_⟩
          · rw [hbc]
            simp only [placed]
            rw [hEc]
            exact perm_ins (List.Perm.refl _)
          · simp only [placed]; rw [hEc]
          · rw [compR_length, HTN.out, ← HLL.out]; have := HG.out.cntn; omega
          · rw [hbc, ← hfl, HFR.out]; exact sumN_comp s.L 0
          · have hm : x.b ∈ comp 0 s.L := by rw [← hbc]; exact List.mem_map_of_mem hx
            obtain ⟨_, _, b', hb', _, hn', _⟩ := comp_mem _ _ _ hm
            have h8 := HG.out.blk b' hb'
            have := HG.out.high
            have := HG.out.cap
            rw [← hn']; omega
        obtain ⟨Rq, hRq⟩ : ∃ Rq, Rq = compR 0 T := ⟨_, rfl⟩
        obtain ⟨smq, hsmq⟩ : ∃ smq, smq = sm + 1 := ⟨_, rfl⟩
        rw [← hRq, ← hsmq] at HMID
        rw [← hRq, ← hsmq] at HTL
        clear hRq hsmq hown1 hgrow1 hat1
  all_goals
    obtain ⟨⟨bq, nq, cq, hSq⟩, hRb, hOq, hOwn, hVq, Bq, hRC, hBq, hFrq⟩ := HMID.out
    obtain ⟨s0, s1, s2, s3, s4, s5⟩ := hSq.c
    have hlq := HTL.out.len
    obtain ⟨n1, hn1⟩ : ∃ a, a = Rq.length := ⟨_, rfl⟩
    rw [← hn1] at hOwn hlq
    obtain ⟨b1, c1, hv1e, hv1c⟩ := owns_slice4 hOwn
    subst hv1e
    obtain ⟨i2, hi2, hy0, hy1, hy2⟩ := info_parts Try.info2
    have hmk : ∀ W : World, (Instr.makeSlice 40 (.int .i64 (words : Int)) (.int .i64 (words : Int))).run Try.prog W = .ok (.slice (some ⟨W.heap.size, 0, none⟩) words words) (W.alloc (.cells (madeCells #[.int .i64 0] words) 2)) := fun W => by
      have := run_make (P := Try.prog) W 40 2 i2 (.int .i64 0) Try.underlying40 hi2 hy0 .i64 .i64 words words (by omega) (by omega) (by rw [hy2]; omega) (by omega)
      rw [hy1] at this
      simp only [Int.toNat_natCast, Nat.mul_one] at this
      exact this
    obtain ⟨gz, hgz⟩ : ∃ a, a = w6.heap.size := ⟨_, rfl⟩
    obtain ⟨Y, hY⟩ : ∃ Y, Y = (w6.alloc (.cells (madeCells #[.int .i64 0] words) 2)).alloc (.cells #[.int .i64 ((sn : Int) + 1), .int .i64 fr, .int .i64 words, .slice (some ⟨gz, 0, none⟩) words words] 77) := ⟨_, rfl⟩
    obtain ⟨oY, hzX, hnX, hsX⟩ := twoG hY
    rw [← hgz] at hzX hnX hsX
    obtain ⟨X, hX⟩ : ∃ X, X = Y.drew := ⟨_, rfl⟩
    have oX : Oth [] w6 X := by rw [hX]; exact oY.drew
    replace hzX : X.heap[gz]? = some (.cells (madeCells #[.int .i64 0] words) 2 (0, 0)) := by rw [hX]; exact hzX
    replace hnX : X.heap[gz + 1]? = some (.cells #[.int .i64 ((sn : Int) + 1), .int .i64 fr, .int .i64 words, .slice (some ⟨gz, 0, none⟩) words words] 77 (0, 0)) := by rw [hX]; exact hnX
    replace hsX : X.heap.size = gz + 2 := by rw [hX]; exact hsX
    obtain ⟨v2, w7, hrun, hown7, hgrow7, _, hat7⟩ := run_append_own_at (P := Try.prog) X w.heap.size 53 53 77 i0 _ 4 48 Try.underlying53 hi hz0 hz1 hz2 rfl (by decide) _ _ _ (owns_oth hOwn oX (by simp)) ⟨gz + 1, 0, none⟩ 1 1 [.int .i64 ((sn : Int) + 1), .int .i64 fr, .int .i64 words, .slice (some ⟨gz, 0, none⟩) words words] rfl (fun j u hu => by
      rw [Addr.add_lit]
      match j with
      | 0 => simp at hu; subst hu; simp only [World.cell?, hnX]; rfl
      | 1 => simp at hu; subst hu; simp only [World.cell?, hnX]; rfl
      | 2 => simp at hu; subst hu; simp only [World.cell?, hnX]; rfl
      | 3 => simp at hu; subst hu; simp only [World.cell?, hnX]; rfl
      | j + 4 => simp at hu) (fun u hu => by simp at hu; rcases hu with rfl | rfl | rfl | rfl <;> rfl) (by unfold maxLen; omega) (by omega) (by have := hOq.size; have := oX.size; omega)
    have hv2e : ∃ b2 c2, v2 = .slice b2 (n1 + 1) c2 := by
      rcases hown7.2 with ⟨_, h0⟩ | ⟨g2, c2, _, h0, _⟩
      · omega
      · exact ⟨_, c2, h0⟩
    obtain ⟨b2, c2, rfl⟩ := hv2e
    have hg7 : ∀ k, k < X.heap.size → sb + 2 ≤ k ∨ w7.heap[k]? = X.heap[k]? := fun k hk => by
      by_cases e : some k = Value.ownBlock (.slice b1 n1 c1)
      · exact .inl (hVq k e.symm)
      · exact .inr (hgrow7.block k hk e)
    have hS7 : SC sb sc (sn + 1) sh sp smq (.slice bq nq cq) w7 := by
      have h5 : X.heap[sb]? = _ := oX.heap hSq (by simp)
      rcases hg7 sb (lt_of_block h5) with h | h
      · omega
      · exact h.trans h5
    have hr7 : w7.heap[sb + 1]? = some (.cells #[.int .i64 0, .int .i64 0, .int .i64 0, .int .i64 0, .int .i64 0, .slice none 0 0] 55 (0, 0)) := by
      have h5 := oX.heap hRb (by simp)
      rcases hg7 (sb + 1) (lt_of_block h5) with h | h
      · omega
      · exact h.trans h5
    have o7 : Oth [] w w7 := (hOq.trans oX (Fr.nil _ _)).grown hgrow7 (fun k hk => by have := (hOwn.lt k hk).1; exact .inr this)
    obtain ⟨e0, e1, e2, e3, e4, e5⟩ := hS7.c
    have g0 := hS7.f 5
    rw [hX, hY, hgz] at hrun
    have HGZ := Lib.hid hgz
    have HN1 := Lib.hid hn1
    have hsbl : sb < w6.heap.size := lt_of_block hSq
    have HS7 := Lib.hid hS7
    have HR7 := Lib.hid hr7
    have HO7 := Lib.hid o7
    have HOWN7 := Lib.hid hown7
    have HV7 : Hid (∀ q, (Value.slice b2 (n1 + 1) c2).ownBlock = some q → sb + 2 ≤ q) := fun q hq => by
      rcases hat7 with h | h
      · exact hVq q (by rw [← h]; exact hq)
      · rw [hq, hsX] at h; simp at h
        have := lt_of_block hRb
        omega
    have HMM : Hid (∃ Bz, (∀ x, x ∈ Rq → RdC Bz x w7) ∧ (∀ b, b ∈ Bz → b ≠ sb ∧ b ≠ sb + 1) ∧ Fr B w Bz) := by
      refine ⟨Bq, fun x hx => ?_, fun b hb => ⟨(hBq b hb).1, (hBq b hb).2.1⟩, hFrq⟩
      have hx7 := (hRC x hx).oth oX (by simp)
      have oX7 : Oth (Value.ownBlock (.slice b1 n1 c1)).toList X w7 := (Oth.refl _ _).grown hgrow7 (fun k hk => .inl (by rw [hk]; simp))
      exact hx7.oth oX7 (fun k hk hm => (hBq k hk).2.2.2 (by simpa using hm))
    have HZ7 : Hid (w7.heap[gz]? = some (.cells (madeCells #[.int .i64 0] words) 2 (0, 0)) ∧ sb + 2 ≤ gz) := by
      refine ⟨(hgrow7.block gz (lt_of_block hzX) (fun e => ?_)).trans hzX, by have := lt_of_block hRb; omega⟩
      have := (hOwn.lt gz e.symm).2
      omega
    clear hSq hRb hOq hOwn hVq hRC hBq hFrq hv1c oY hzX hnX hsX oX hown7 hgrow7 hat7 hg7 hS7 hr7 o7 HMID hX hY hgz hn1
    go_wp2_with fail
    go_region_law (refine step_append_runI rfl _ _ 53 53 rfl (.slice b1 n1 c1) (.slice (some ⟨w6.heap.size + 1, 0, none⟩) 1 1) (by simp [Act.eval, Act.put]) (by simp [Act.eval, Act.put]) hrun ?_)
    all_goals
      have HS8 : Hid (SC sb sc (sn + 1) sh sp smq (.slice b2 (n1 + 1) c2) (w7.setCell ⟨sb, 5, none⟩ (.slice b2 (n1 + 1) c2))) := HS7.out.set5
      have HA8 : Hid (Aft w B sb (.slice b2 (n1 + 1) c2) (Rq ++ [newRB sn fr words gz]) (w7.setCell ⟨sb, 5, none⟩ (.slice b2 (n1 + 1) c2))) :=
        (aft_of HSB.out h2 HR7.out HO7.out HOWN7.out (by rw [HN1.out]) HV7.out HMM.out HZ7.out).set ((Oth.refl _ _).setCell (p := ⟨sb, 5, none⟩) (.inl (by simp)) _) (by rw [HSB.out]; exact Nat.le_refl _)
      obtain ⟨W8, hW8⟩ : ∃ W8, W8 = w7.setCell ⟨sb, 5, none⟩ (.slice b2 (n1 + 1) c2) := ⟨_, rfl⟩
      rw [← hW8] at HS8 HA8 ⊢
      obtain ⟨snq, hsnq⟩ : ∃ a, a = sn + 1 := ⟨_, rfl⟩
      rw [← hsnq] at HS8
      have HSNQ := Lib.hid hsnq
      obtain ⟨R', hR'⟩ : ∃ a, a = Rq ++ [newRB sn fr words gz] := ⟨_, rfl⟩
      have HR' := Lib.hid hR'
      rw [← hR'] at HA8
      obtain ⟨n2, hn2⟩ : ∃ a, a = n1 + 1 := ⟨_, rfl⟩
      have HN2 := Lib.hid hn2
      rw [← hn2] at HS8 HA8
      have hn2l : n2 ≤ 1000 := by omega
      obtain ⟨a0, a1, a2, a3, a4, a5⟩ := HS8.out.c
      have fa := HS8.out.f 2
      have hfit := HTL.out.fit
      rw [← HE.out.2.1] at hfit
      have x1 : IntKind.i64.wrap ((fr : Int) + (words : Int)) = (fr : Int) + (words : Int) := by rw [IntKind.wrap_i64]; omega
      clear hW8 HS7 HR7 HO7 HOWN7 HV7 HMM HZ7 s0 s1 s2 s3 s4 s5 e0 e1 e2 e3 e4 e5 g0 hrun hmk hsnq hR' hn2
      have key2 : sh < fr + words ∨ ¬ sh < fr + words := by omega
      rcases key2 with hh | hh
    all_goals first
      | (have y1 : (sh : Int) < (fr : Int) + (words : Int) := by omega
         go_wp2_with fail
         obtain ⟨shq, hshq⟩ : ∃ a, a = fr + words := ⟨_, rfl⟩
         obtain ⟨W9, hW9⟩ : ∃ W9, W9 = W8.setCell ⟨sb, 2, none⟩ (.int .i64 ((fr : Int) + (words : Int))) := ⟨_, rfl⟩
         have HS9 : Hid (SC sb sc snq shq sp smq (.slice b2 n2 c2) W9) := by
           have := HS8.out.set2 (k := shq)
           rw [hshq, Int.natCast_add] at this
           rw [hW9, hshq]; exact this
         have HA9 : Hid (Aft w B sb (.slice b2 n2 c2) R' W9) := by
           rw [hW9]
           exact HA8.out.set ((Oth.refl _ _).setCell (p := ⟨sb, 2, none⟩) (.inl (by simp)) _) (by rw [HSB.out]; exact Nat.le_refl _)
         have HMX : Hid (shq = max sh (fr + words)) := by rw [hshq]; show _ = _; omega
         rw [← hW9]
         clear hW9 hshq a0 a1 a2 a3 a4 a5 fa HS8 HA8 y1 hh)
      | (have y1 : ¬ (sh : Int) < (fr : Int) + (words : Int) := by omega
         go_wp2_with fail
         obtain ⟨shq, hshq⟩ : ∃ a, a = sh := ⟨_, rfl⟩
         obtain ⟨W9, hW9⟩ : ∃ W9, W9 = W8 := ⟨_, rfl⟩
         have HS9 : Hid (SC sb sc snq shq sp smq (.slice b2 n2 c2) W9) := by rw [hW9, hshq]; exact HS8.out
         have HA9 : Hid (Aft w B sb (.slice b2 n2 c2) R' W9) := by rw [hW9]; exact HA8.out
         have HMX : Hid (shq = max sh (fr + words)) := by rw [hshq]; show _ = _; omega
         rw [← hW9]
         clear hW9 hshq a0 a1 a2 a3 a4 a5 fa HS8 HA8 y1 hh)
    all_goals
      obtain ⟨lw, hlw⟩ : ∃ a, a = sl + words := ⟨_, rfl⟩
      have hR'n : n2 = R'.length := by rw [HR'.out, HN2.out, HN1.out]; simp
      have hsumR : sumN (blks R') = lw := by
        have h5 := HTL.out.sum
        rw [HR'.out, hlw, HE.out.1]
        unfold blks at h5 ⊢
        rw [List.map_append, sumN_append, h5]
        simp [newRB, sumN]
      have hbn' : ∀ x, x ∈ R' → x.b.n ≤ 16777216 := fun x hx => by
        rw [HR'.out] at hx
        rcases List.mem_append.1 hx with h | h
        · exact HTL.out.bn x h
        · simp at h; subst h; simp [newRB]; omega
      have HL9 : Hid (∀ W, Oth [] W9 W → Calls Try.prog 38 #[.agg #[.int .i64 sc, .int .i64 snq, .int .i64 shq, .int .i64 sp, .int .i64 smq, .slice b2 n2 c2]] W fun e w' => e = .returned (.int .i64 lw) ∧ w'.cell? ⟨sb, 0, none⟩ = some (.int .i64 sc) ∧ w'.cell? ⟨sb, 1, none⟩ = some (.int .i64 snq) ∧ w'.cell? ⟨sb, 2, none⟩ = some (.int .i64 shq) ∧ w'.cell? ⟨sb, 3, none⟩ = some (.int .i64 sp) ∧ w'.cell? ⟨sb, 4, none⟩ = some (.int .i64 smq) ∧ w'.cell? ⟨sb, 5, none⟩ = some (.slice b2 n2 c2) ∧ Hid (Oth [] W9 w')) := by
        intro W hW
        obtain ⟨B', hb1, hb2, hb3⟩ := HA9.out.rd
        have hlv := Live_ref B' ⟨sc, [], 0, snq, 0, shq, sp, smq⟩ b2 n2 c2 R' W (hb1.quiet hW) hR'n hn2l hbn'
        rw [hsumR] at hlv
        refine Calls.mono hlv ?_
        rintro e w' ⟨rfl, ho⟩
        have hz := hW.trans ho (Fr.nil _ _)
        have hs : SC sb sc snq shq sp smq (.slice b2 n2 c2) w' := hz.heap HS9.out (by simp)
        obtain ⟨c0, c1, c2, c3, c4, c5⟩ := hs.c
        exact ⟨rfl, c0, c1, c2, c3, c4, c5, hz⟩
      obtain ⟨s0, s1, s2, s3, s4, s5⟩ := HS9.out.c
      have HLW := Lib.hid hlw
      have hlwb : lw ≤ 16777216 := by omega
      clear hsumR hbn' hR'n hlw
      go_region_held3 (fun w' => w'.cell? ⟨sb, 0, none⟩ = some (.int .i64 sc) ∧ w'.cell? ⟨sb, 1, none⟩ = some (.int .i64 snq) ∧ w'.cell? ⟨sb, 2, none⟩ = some (.int .i64 shq) ∧ w'.cell? ⟨sb, 3, none⟩ = some (.int .i64 sp) ∧ w'.cell? ⟨sb, 4, none⟩ = some (.int .i64 smq) ∧ w'.cell? ⟨sb, 5, none⟩ = some (.slice b2 n2 c2)) (first | exact ⟨s0, s1, s2, s3, s4, s5⟩ | exact ⟨u0, u1, u2, u3, u4, u5⟩)
        (first | (go_at_call 38; refine (HL9.out _ ?_).mono ?_; exact (Oth.refl _ _).drew; rintro e w10 ⟨rfl, u0, u1, u2, u3, u4, u5, HF10⟩))
      have key3 : sp < lw ∨ ¬ sp < lw := by omega
      rcases key3 with hh | hh
    all_goals first
      | (have y1 : (sp : Int) < (lw : Int) := by omega
         go_wp2_with fail
         refine (HL9.out _ HF10.out).mono ?_
         rintro e w11 ⟨rfl, p0, p1, p2, p3, p4, p5, HF11⟩
         have fz : w11.frozen? ⟨sb, 3, none⟩ = false := (show SC sb sc snq shq sp smq (.slice b2 n2 c2) w11 from HF11.out.heap HS9.out (by simp)).f 3
         have hA11 := HA9.out.set (HF11.out.mono (S' := [sb]) (by simp)) (by rw [HSB.out]; exact Nat.le_refl _)
         obtain ⟨⟨r0, r1, r2, r3, r4, r5⟩, fr5⟩ := hA11.cells
         have HA12 := Lib.hid (hA11.set (W' := w11.setCell ⟨sb, 3, none⟩ (.int .i64 lw)) ((Oth.refl _ _).setCell (p := ⟨sb, 3, none⟩) (.inl (by simp)) _) (by rw [HSB.out]; exact Nat.le_refl _))
         clear hA11
         go_wp2
         obtain ⟨f1, f2⟩ := fin36 (s' := s') HSB.out HA12.out (sc := sc) (snq := snq) (shq := shq) (spq := lw) (smq := smq) (by rw [HTL.out.cap, HE.out.2.1]) (by rw [HTL.out.next, HSNQ.out, HE.out.2.2.1]) (by rw [HTL.out.high, HMX.out, HE.out.2.2.2.1]) (by have h8 := HLW.out; have h9 := HE.out; rw [HTL.out.peak]; omega) HTL.out.moves (by rw [HR'.out]; exact HTL.out.fin HE.out.2.2.1)
         first
           | exact bodyPost_ret (ret36 f1) rfl f2
           | (refine bodyPost_ret (ret36 f1) rfl ?_
              obtain ⟨v, B', R'', h1, h2, h3, h4, h5⟩ := f2
              first
                | exact ⟨v, h1, B', R'', h2, h3, h4, h5⟩
                | exact ⟨v, h1, B', ⟨R'', h2, h3⟩, h4, h5⟩
                | exact ⟨v, h1, ⟨B', R'', h2, h3, h4⟩, h5⟩
                | exact ⟨v, h1, ⟨B', ⟨R'', h2, h3⟩, h4⟩, h5⟩))
      | (have y1 : ¬ (sp : Int) < (lw : Int) := by omega
         have hA10 := HA9.out.set (HF10.out.mono (S' := [sb]) (by simp)) (by rw [HSB.out]; exact Nat.le_refl _)
         obtain ⟨⟨r0, r1, r2, r3, r4, r5⟩, fr5⟩ := hA10.cells
         have HA12 := Lib.hid hA10
         clear hA10
         go_wp2
         obtain ⟨f1, f2⟩ := fin36 (s' := s') HSB.out HA12.out (sc := sc) (snq := snq) (shq := shq) (spq := sp) (smq := smq) (by rw [HTL.out.cap, HE.out.2.1]) (by rw [HTL.out.next, HSNQ.out, HE.out.2.2.1]) (by rw [HTL.out.high, HMX.out, HE.out.2.2.2.1]) (by have h8 := HLW.out; have h9 := HE.out; rw [HTL.out.peak]; omega) HTL.out.moves (by rw [HR'.out]; exact HTL.out.fin HE.out.2.2.1)
         first
           | exact bodyPost_ret (ret36 f1) rfl f2
           | (refine bodyPost_ret (ret36 f1) rfl ?_
              obtain ⟨v, B', R'', h1, h2, h3, h4, h5⟩ := f2
              first
                | exact ⟨v, h1, B', R'', h2, h3, h4, h5⟩
                | exact ⟨v, h1, B', ⟨R'', h2, h3⟩, h4, h5⟩
                | exact ⟨v, h1, ⟨B', R'', h2, h3, h4⟩, h5⟩
                | exact ⟨v, h1, ⟨B', ⟨R'', h2, h3⟩, h4⟩, h5⟩))
end Go.Proofs.Ythllilkafdgheaa
