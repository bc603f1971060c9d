/- The states of the loop of the law ArenaBounds. No condition. -/
import Derived.Test.YthllilkafdgheaaBh
namespace Go.Proofs.Ythllilkafdgheaa
open Go.RowKit Go.Shelf
set_option linter.unusedVariables false
set_option linter.unusedSimpArgs false
attribute [local go_sem] Oper.semAt_some

/-- A range over a function whose variable is a box of its own in each round. -/
theorem wpIn_rangeFunc_box {P : Program} {F : Fence} {n : Nat} {α : Type} {g : Operand} {ps : Array Tmp} {assign body : Code} {Q : Exit → Act → World → Prop} {a : Act} {w : World}
    (hro : F.round = none) (h1 : 1 ≤ n) {gf : Nat} {lb : Array Value} (hg : a.eval g = .func (.func gf) #[] lb) (hFg : F.fn gf) (eg : ∀ args w, (callFunc gf args).run P w = .ok (.enter gf args) w)
    {encs : α → Array Value} {Kp : World → World → Prop} {S Sp : List α → Prop} {N : Nat} {w0 : World} (hseq : SeqStopsK F (n - 1) P gf lb encs Kp S Sp N w0)
    (hKt : ∀ {A B C : World}, Kp A B → Kp B C → Kp A C) (hKb : ∀ (W : World) (l : Nat) (o o' : Obj), w.heap.size ≤ l → W.heap[l]? = some o → o.isCells = false → o.isWalk = false → Kp W (W.putObj l o')) (hb0 : Below w0.heap.size w0 w) (hps : ∀ x, (encs x).size = ps.size)
    (I : List α → World → Prop) (Ix : Code → List α → World → Prop) (hI : OwnFrom w.heap.size I) (hIx : ∀ c, OwnFrom w.heap.size (Ix c)) (h0 : I [] w) (G : α → Nat → World → Prop) (hG : ∀ x b, OwnFrom w.heap.size (fun (_ : Unit) W => G x b W)) (A : α → Nat → Act)
    (hassign : ∀ (l : Nat) (pre : List α) (x : α) (W : World) (K : Act → World → Prop), I pre W → (∀ b W', KeepsFrom w.heap.size W W' → Kp W W' → I pre W' → G x b W' → K (A x b) W') →
      assign.wpIn (F.inRound l) (n - 1 - 1) P (Exit.then K (fun _ _ _ => False)) { tmps := (ps.zip (encs x)).foldl (fun t (p, v) => t.setIfInBounds p v) a.tmps, defers := [] } W)
    (hbody : ∀ (l : Nat) (pre : List α) (x : α) (b : Nat) (W : World), I pre W → G x b W → pre.length < N → body.wpIn (F.inRound l) (n - 1 - 1) P (ownPostG w.heap.size Kp I Ix (pre ++ [x]) W) (A x b) W)
    (hdone : ∀ (D : Nat) (xs : List α) (W : World), w.heap.size ≤ D → S xs → I xs W → W.heap[D]? = some (.deferred (some [])) → Q .normal { a with defers := { target := .collected D, args := #[] } :: a.defers } W)
    (hstop : ∀ (D : Nat) (c : Code) (pre : List α) (W : World), w.heap.size ≤ D → Sp pre → Ix c pre W → W.heap[D]? = some (.deferred (some [])) → c.wpIn F n P Q { a with defers := { target := .collected D, args := #[] } :: a.defers } W) :
    (Code.rangeFunc g ps assign body).wpIn F n P Q a w := by
  refine wpIn_rangeFunc_ownH hro h1 hg hFg eg hseq (fun h k => hKt h k) hKb hb0 hps I Ix hI hIx h0 (fun x a' W => ∃ b, G x b W ∧ a' = A x b) ?_ ?_ ?_ hdone hstop
  · rintro x a' u W W' row ⟨b, h2, h3⟩ hg hr
    exact ⟨b, hG x b u W W' row h2 hg hr, h3⟩
  · intro l pre x W K hi hK
    exact hassign l pre x W K hi (fun b W' k1 k2 k3 k4 => hK _ _ k1 k2 k3 ⟨b, k4, rfl⟩)
  · rintro l pre x a' W _ _ hi ⟨b, k4, rfl⟩ hl
    exact hbody l pre x b W hi k4 hl
/-- Two counters and the iterator's cell, new beside the arena. -/
theorem three {w1 : World} {p : Nat} {s : St} {w3 : World} (hf : Fresh w1 p s w3) (t : TypeId) {W4 : World} (hW : W4 = ((w3.alloc (.cells #[.int .i64 0] 3)).alloc (.cells #[.int .i64 0] 3)).alloc (.cells #[.pointer (some ⟨p, 0, none⟩)] t)) {tb : Nat} (htb : tb = w3.heap.size) :
    Oth [] w3 W4 ∧ W4.heap[tb]? = some (.cells #[.int .i64 0] 3 (0, 0)) ∧ W4.heap[tb + 1]? = some (.cells #[.int .i64 0] 3 (0, 0)) ∧ W4.heap[tb + 2]? = some (.cells #[.pointer (some ⟨p, 0, none⟩)] t (0, 0)) ∧ W4.heap.size = tb + 3 ∧ Fresh w1 p s W4 ∧ Bes p s W4 tb ∧ Bes p s W4 (tb + 1) := by
  subst hW; subst htb
  have o1 : Oth [] w3 (w3.alloc (.cells #[.int .i64 0] 3)) := (Oth.refl _ _).alloc _
  have o2 : Oth [] (w3.alloc (.cells #[.int .i64 0] 3)) ((w3.alloc (.cells #[.int .i64 0] 3)).alloc (.cells #[.int .i64 0] 3)) := (Oth.refl _ _).alloc _
  have o3 : Oth [] ((w3.alloc (.cells #[.int .i64 0] 3)).alloc (.cells #[.int .i64 0] 3)) (((w3.alloc (.cells #[.int .i64 0] 3)).alloc (.cells #[.int .i64 0] 3)).alloc (.cells #[.pointer (some ⟨p, 0, none⟩)] t)) := (Oth.refl _ _).alloc _
  have h1 : (w3.alloc (.cells #[.int .i64 0] 3)).heap[w3.heap.size]? = some (.cells #[.int .i64 0] 3 (0, 0)) := heap_alloc_new _ _
  have h2 : ((w3.alloc (.cells #[.int .i64 0] 3)).alloc (.cells #[.int .i64 0] 3)).heap[w3.heap.size + 1]? = some (.cells #[.int .i64 0] 3 (0, 0)) := by
    have := heap_alloc_new (w3.alloc (.cells #[.int .i64 0] 3)) (.cells #[.int .i64 0] 3)
    rw [World.size_alloc] at this; exact this
  have h3 : (((w3.alloc (.cells #[.int .i64 0] 3)).alloc (.cells #[.int .i64 0] 3)).alloc (.cells #[.pointer (some ⟨p, 0, none⟩)] t)).heap[w3.heap.size + 2]? = some (.cells #[.pointer (some ⟨p, 0, none⟩)] t (0, 0)) := by
    have := heap_alloc_new ((w3.alloc (.cells #[.int .i64 0] 3)).alloc (.cells #[.int .i64 0] 3)) (.cells #[.pointer (some ⟨p, 0, none⟩)] t)
    rw [World.size_alloc, World.size_alloc] at this; exact this
  have o13 := (o1.trans o2 (Fr.nil _ _)).trans o3 (Fr.nil _ _)
  have a1 := (o2.trans o3 (Fr.nil _ _)).heap h1 (by simp)
  have a2 := o3.heap h2 (by simp)
  refine ⟨o13, a1, a2, h3, by simp, hf.quiet o13, hf.bes o13 (Nat.le_refl _) (lt_of_block a1), hf.bes o13 (by omega) (lt_of_block a2)⟩
/-- What a round of the law's loop finds. -/
def BA (cb rb p : Nat) (base : Option Addr) (n c i : Nat) (Ds : List Nat) (a : Act) : Prop :=
  a.tmps[33]? = some (.int .i64 i) ∧ a.tmps[2]? = some (.pointer (some ⟨cb, 0, none⟩)) ∧ a.tmps[4]? = some (.pointer (some ⟨rb, 0, none⟩)) ∧ a.tmps[5]? = some (.pointer (some ⟨p, 0, none⟩)) ∧ a.tmps[31]? = some (.slice base n c) ∧ a.tmps[32]? = some (.int .i64 n) ∧ a.tmps.size = 130 ∧ a.defers = marks Ds
structure BL (cb rb p : Nat) (base : Option Addr) (n c : Nat) (w1 : World) (cp : Nat) (a : Act) (W : World) : Prop where
  mk' ::
  all : ∃ (i : Nat) (Ds : List Nat), i ≤ n ∧ BA cb rb p base n c i Ds a ∧ Hid (BI w1 p cp i Ds W)
theorem open10 (l : List Value) (k : Nat) (h : l.length = k + 10) : ∃ a0 a1 a2 a3 a4 a5 a6 a7 a8 a9 r, l = a0 :: a1 :: a2 :: a3 :: a4 :: a5 :: a6 :: a7 :: a8 :: a9 :: r ∧ r.length = k :=
  match l, h with
  | a0 :: a1 :: a2 :: a3 :: a4 :: a5 :: a6 :: a7 :: a8 :: a9 :: r, h => ⟨a0, a1, a2, a3, a4, a5, a6, a7, a8, a9, r, rfl, by simpa using h⟩
theorem allA {M : Array Value → Prop} (h : ∀ u0 u1 u2 u3 u4 u5 u6 u7 u8 u9 u10 u11 u12 u13 u14 u15 u16 u17 u18 u19 u20 u21 u22 u23 u24 u25 u26 u27 u28 u29 u30 u31 u32 u33 u34 u35 u36 u37 u38 u39 u40 u41 u42 u43 u44 u45 u46 u47 u48 u49 u50 u51 u52 u53 u54 u55 u56 u57 u58 u59 u60 u61 u62 u63 u64 u65 u66 u67 u68 u69 u70 u71 u72 u73 u74 u75 u76 u77 u78 u79 u80 u81 u82 u83 u84 u85 u86 u87 u88 u89 u90 u91 u92 u93 u94 u95 u96 u97 u98 u99 u100 u101 u102 u103 u104 u105 u106 u107 u108 u109 u110 u111 u112 u113 u114 u115 u116 u117 u118 u119 u120 u121 u122 u123 u124 u125 u126 u127 u128 u129, M #[u0, u1, u2, u3, u4, u5, u6, u7, u8, u9, u10, u11, u12, u13, u14, u15, u16, u17, u18, u19, u20, u21, u22, u23, u24, u25, u26, u27, u28, u29, u30, u31, u32, u33, u34, u35, u36, u37, u38, u39, u40, u41, u42, u43, u44, u45, u46, u47, u48, u49, u50, u51, u52, u53, u54, u55, u56, u57, u58, u59, u60, u61, u62, u63, u64, u65, u66, u67, u68, u69, u70, u71, u72, u73, u74, u75, u76, u77, u78, u79, u80, u81, u82, u83, u84, u85, u86, u87, u88, u89, u90, u91, u92, u93, u94, u95, u96, u97, u98, u99, u100, u101, u102, u103, u104, u105, u106, u107, u108, u109, u110, u111, u112, u113, u114, u115, u116, u117, u118, u119, u120, u121, u122, u123, u124, u125, u126, u127, u128, u129]) : ∀ t : Array Value, t.size = 130 → M t := by
  intro t ht
  obtain ⟨l⟩ := t
  have k0 : l.length = 120 + 10 := ht
  clear ht
  obtain ⟨u0, u1, u2, u3, u4, u5, u6, u7, u8, u9, l1, rfl, k1⟩ := open10 l (110 + 10) k0
  obtain ⟨u10, u11, u12, u13, u14, u15, u16, u17, u18, u19, l2, rfl, k2⟩ := open10 l1 (100 + 10) k1
  obtain ⟨u20, u21, u22, u23, u24, u25, u26, u27, u28, u29, l3, rfl, k3⟩ := open10 l2 (90 + 10) k2
  obtain ⟨u30, u31, u32, u33, u34, u35, u36, u37, u38, u39, l4, rfl, k4⟩ := open10 l3 (80 + 10) k3
  obtain ⟨u40, u41, u42, u43, u44, u45, u46, u47, u48, u49, l5, rfl, k5⟩ := open10 l4 (70 + 10) k4
  obtain ⟨u50, u51, u52, u53, u54, u55, u56, u57, u58, u59, l6, rfl, k6⟩ := open10 l5 (60 + 10) k5
  obtain ⟨u60, u61, u62, u63, u64, u65, u66, u67, u68, u69, l7, rfl, k7⟩ := open10 l6 (50 + 10) k6
  obtain ⟨u70, u71, u72, u73, u74, u75, u76, u77, u78, u79, l8, rfl, k8⟩ := open10 l7 (40 + 10) k7
  obtain ⟨u80, u81, u82, u83, u84, u85, u86, u87, u88, u89, l9, rfl, k9⟩ := open10 l8 (30 + 10) k8
  obtain ⟨u90, u91, u92, u93, u94, u95, u96, u97, u98, u99, l10, rfl, k10⟩ := open10 l9 (20 + 10) k9
  obtain ⟨u100, u101, u102, u103, u104, u105, u106, u107, u108, u109, l11, rfl, k11⟩ := open10 l10 (10 + 10) k10
  obtain ⟨u110, u111, u112, u113, u114, u115, u116, u117, u118, u119, l12, rfl, k12⟩ := open10 l11 (0 + 10) k11
  obtain ⟨u120, u121, u122, u123, u124, u125, u126, u127, u128, u129, l13, rfl, k13⟩ := open10 l12 0 k12
  obtain rfl : l13 = [] := List.eq_nil_of_length_eq_zero k13
  exact h u0 u1 u2 u3 u4 u5 u6 u7 u8 u9 u10 u11 u12 u13 u14 u15 u16 u17 u18 u19 u20 u21 u22 u23 u24 u25 u26 u27 u28 u29 u30 u31 u32 u33 u34 u35 u36 u37 u38 u39 u40 u41 u42 u43 u44 u45 u46 u47 u48 u49 u50 u51 u52 u53 u54 u55 u56 u57 u58 u59 u60 u61 u62 u63 u64 u65 u66 u67 u68 u69 u70 u71 u72 u73 u74 u75 u76 u77 u78 u79 u80 u81 u82 u83 u84 u85 u86 u87 u88 u89 u90 u91 u92 u93 u94 u95 u96 u97 u98 u99 u100 u101 u102 u103 u104 u105 u106 u107 u108 u109 u110 u111 u112 u113 u114 u115 u116 u117 u118 u119 u120 u121 u122 u123 u124 u125 u126 u127 u128 u129
end Go.Proofs.Ythllilkafdgheaa
