/- The walk of order.Batches in the twin. -/
import Derived.Test.YtminoelijdpmeaaOf
namespace Go.Proofs.Ytminoelijdpmeaa
open Go.RowKit
set_option linter.unusedVariables false

/-- The i-th batch. -/
def chunk (L : List Int) (s i : Nat) : List Int := (L.drop (i * s)).take s
theorem chunk_length (L : List Int) (s i : Nat) : (chunk L s i).length = min s (L.length - i * s) := by simp [chunk]
theorem chunk_get (L : List Int) (s i j : Nat) (h : j < s) : (chunk L s i)[j]? = L[i * s + j]? := by
  simp [chunk, List.getElem?_take, h]

/-- The batches' values: the i-th lies in the block G i. -/
def batV (B : Nat → List Int) (G K : Nat → Nat) (m : Nat) : List Value := (List.range m).map fun i => Value.slice (some ⟨G i, 0, none⟩) (B i).length (K i)
theorem batV_succ (B : Nat → List Int) (G K : Nat → Nat) (m : Nat) : batV B G K (m + 1) = batV B G K m ++ [Value.slice (some ⟨G m, 0, none⟩) (B m).length (K m)] := by simp [batV, List.range_succ]
theorem batV_congr {B B' : Nat → List Int} {G G' K K' : Nat → Nat} {m : Nat} (h : ∀ i, i < m → B i = B' i ∧ G i = G' i ∧ K i = K' i) : batV B G K m = batV B' G' K' m := by
  unfold batV
  apply List.map_congr_left
  intro i hi
  obtain ⟨h1, h2, h3⟩ := h i (by simpa using hi)
  rw [h1, h2, h3]

/-- u holds m batches: the i-th reads as B i, each in a block of its own. -/
structure BatAt (N : Nat) (u : Value) (m : Nat) (B : Nat → List Int) (G K : Nat → Nat) (w : World) : Prop where
  own : w.ownsRow N 24 1 u m (batV B G K m)
  row : ∀ i, i < m → RowPre (G i) (B i) w
  lo : ∀ i, i < m → N ≤ G i
  cap : ∀ i, i < m → (B i).length ≤ K i
  off : ∀ i, i < m → u.ownBlock ≠ some (G i)
  apart : ∀ i j, i < j → j < m → G i ≠ G j

set_option maxHeartbeats 400000 in
theorem batches_no (size : Int) (v : Value) (w : World) (h : size < 1 ∨ 64 < size) :
    Calls Tw 15 #[v, .int .i64 size] w fun e w' => e = .returned (.tuple #[.slice none 0 0, .int .i64 11]) ∧ w = w' := by
  rcases h with h | h
  · go_enter Tw.func15, Try.ntmps15
    go_wp2
    go_ret2
    exact ⟨rfl, rfl⟩
  · have h' : ¬ size < 1 := by omega
    go_enter Tw.func15, Try.ntmps15
    go_wp2
    go_ret2
    exact ⟨rfl, rfl⟩

def upd1 (f : Nat → Nat) (m x : Nat) : Nat → Nat := fun i => if i = m then x else f i
theorem upd1_same (f : Nat → Nat) (m x : Nat) : upd1 f m x m = x := by simp [upd1]
theorem upd1_lt (f : Nat → Nat) (m x i : Nat) (h : i < m) : upd1 f m x i = f i := by unfold upd1; rw [if_neg (by omega)]

theorem owns_below {w w' : World} {B : Nat} {e : TypeId} {size n C : Nat} {v : Value} {xs : List Value} (h : w.ownsRow B e size v n xs) (hC : w.heap.size ≤ C) (hb : Below C w w') : w'.ownsRow B e size v n xs := by
  refine ⟨h.1, ?_⟩
  rcases h.2 with h | ⟨g, cap, cur, h1, h2, h3, h4⟩
  · exact .inl h
  · exact .inr ⟨g, cap, cur, h1, h2, by rw [hb.block g (by have := lt_of_block h3; omega)]; exact h3, h4⟩

theorem bat_next {N m g' cap' : Nat} {u v' : Value} {B : Nat → List Int} {G K : Nat → Nat} {wr w1 w2 : World} {o : Obj} (hBat : BatAt N u m B G K wr) (hN : N ≤ wr.heap.size) (hb1 : Below wr.heap.size wr w1) (hR : RowPre g' (B m) w1) (hg' : wr.heap.size ≤ g') (hc' : (B m).length ≤ cap')
    (hgrow : (w1.alloc o).grownBy w2 u.ownBlock) (hown : w2.ownsRow N 24 1 v' (m + 1) (batV B G K m ++ [Value.slice (some ⟨g', 0, none⟩) (B m).length cap'])) (hblk : v'.ownBlock = u.ownBlock ∨ v'.ownBlock = some (w1.heap.size + 1)) :
    BatAt N v' (m + 1) B (upd1 G m g') (upd1 K m cap') w2 := by
  have hlt : ∀ i, i < m → G i < wr.heap.size := fun i hi => (hBat.row i hi).lt
  have hu : ∀ k, u.ownBlock = some k → k < wr.heap.size := fun k hk => (hBat.own.lt k hk).2
  have hg1 : g' < w1.heap.size := hR.lt
  have hs1 := hb1.size
  have keep : ∀ k, k < w1.heap.size → u.ownBlock ≠ some k → w2.heap[k]? = w1.heap[k]? := by
    intro k hk hne
    rw [hgrow.block k (by simp; omega) (fun e => hne e.symm), Below.heap_alloc _ _ _ hk]
  have pre : ∀ k l, RowPre k l w1 → u.ownBlock ≠ some k → RowPre k l w2 := by
    rintro k l ⟨cur, h1, h2⟩ hne
    exact ⟨cur, by rw [keep k (lt_of_block h1) hne]; exact h1, h2⟩
  have hug : u.ownBlock ≠ some g' := fun e => by have := hu g' e; omega
  refine ⟨?_, fun i hi => ?_, fun i hi => ?_, fun i hi => ?_, fun i hi => ?_, fun i j hij hj => ?_⟩
  · rw [batV_succ, upd1_same, upd1_same, batV_congr (B' := B) (G' := G) (K' := K) (fun i hi => ⟨rfl, upd1_lt _ _ _ _ hi, upd1_lt _ _ _ _ hi⟩)]
    exact hown
  · by_cases e : i = m
    · subst e; rw [upd1_same]; exact pre _ _ hR hug
    · rw [upd1_lt _ _ _ _ (by omega)]
      exact pre _ _ ((hBat.row i (by omega)).below (hlt i (by omega)) hb1) (hBat.off i (by omega))
  · by_cases e : i = m
    · subst e; rw [upd1_same]; omega
    · rw [upd1_lt _ _ _ _ (by omega)]; exact hBat.lo i (by omega)
  · by_cases e : i = m
    · subst e; rw [upd1_same]; exact hc'
    · rw [upd1_lt _ _ _ _ (by omega)]; exact hBat.cap i (by omega)
  · by_cases e : i = m
    · subst e; rw [upd1_same]
      rcases hblk with h | h
      · rw [h]; exact hug
      · rw [h]; intro e; have := Option.some.inj e; omega
    · rw [upd1_lt _ _ _ _ (by omega)]
      have := hlt i (by omega)
      rcases hblk with h | h
      · rw [h]; exact hBat.off i (by omega)
      · rw [h]; intro e; have := Option.some.inj e; omega
  · rw [upd1_lt _ _ _ _ (show i < m by omega)]
    by_cases e : j = m
    · subst e; rw [upd1_same]; have := hlt i (by omega); omega
    · rw [upd1_lt _ _ _ _ (by omega)]; exact hBat.apart i j hij (by omega)

/-- How many batches there are. -/
def nBat (n s m : Nat) : Prop := n ≤ m * s ∧ (0 < m → (m - 1) * s < n)

/-- What Batches answers. -/
def BatPost (n : Nat) (L : List Int) (s : Nat) (w : World) (e : Ending) (w' : World) : Prop :=
  ∃ u m G K, e = .returned (.tuple #[u, .int .i64 0]) ∧ nBat n s m ∧ BatAt w.heap.size u m (chunk L s) G K w' ∧ Below w.heap.size w w'

set_option maxHeartbeats 1600000 in
theorem batches_yes (s : Nat) (v : Value) (L : List Int) (w : World) (h1 : 1 ≤ s) (h2 : s ≤ 64) (hn : L.length ≤ 100000) (hL : Reads .i64 v L w) :
    Calls Tw 15 #[v, .int .i64 s] w (BatPost L.length L s w) := by
  obtain ⟨i0, hi, hz0, hz1, hz2⟩ := info_parts Tw.info24
  have hcapL : ∀ b n cap, v = .slice b n cap → L.length ≤ cap := by
    intro b n cap e
    rcases hL with ⟨rfl, _⟩ | ⟨g, off, cap', rfl, _, hc, _⟩
    · simp
    · cases e; exact hc
  obtain ⟨b, c, rfl, hb⟩ := hL.parts
  have hcap := hcapL _ _ _ rfl
  obtain ⟨n, hN⟩ : ∃ n, n = L.length := ⟨_, rfl⟩
  rw [← hN] at hn hb hcap ⊢
  have HN := Lib.hid hN
  have HB := Lib.hid hb
  clear hN hb hL hcapL
  have t1 : ¬ (s : Int) < 1 := by omega
  have t2 : ¬ 64 < (s : Int) := by omega
  go_enter Tw.func15, Try.ntmps15
  go_wp2
  go_loopw [6, 7] (fun u x wr => ∃ (m f : Nat) (G K : Nat → Nat), Hid (f = m * s) ∧ f ≤ n + 64 ∧ x = .int .i64 f ∧ Hid (0 < m → (m - 1) * s < n) ∧ BatAt w.heap.size u m (chunk L s) G K wr ∧ Below w.heap.size w wr) (fun _ x _ => n + 64 - (intOf x).toNat)
  case atStart => exact ⟨0, 0, fun _ => 0, fun _ => 0, by simp [Hid], by omega, rfl, fun h => absurd h (by omega), ⟨World.ownsRow_nil _ _ _ _, fun i h => by omega, fun i h => by omega, fun i h => by omega, fun i h => by omega, fun i j _ h => by omega⟩, Below.refl _ _⟩
  case round =>
    obtain ⟨m, f, G, K, hf, hfb, rfl, hm, hBat, hB⟩ := hrel
    have hsz := hB.size
    by_cases hlt : f < n
    · have t3 : (f : Int) < (n : Int) := by omega
      obtain ⟨g, off, rfl, hg, hc⟩ := HB.out (by omega)
      have hlen : (chunk L s m).length = min s (n - f) := by rw [chunk_length, ← HN.out, ← hf.out]
      obtain ⟨q, hq⟩ : ∃ q, q = (chunk L s m).length := ⟨_, rfl⟩
      have hqs : q = min s (n - f) := hq.trans hlen
      have hcl : ∀ i x, (chunk L s m)[i]? = some x → wr.cell? ⟨g, off + f + i, none⟩ = some (.int .i64 x) := by
        intro i x hx
        have hi' : i < s := by
          have := (List.getElem?_eq_some_iff.1 hx).1
          rw [hlen] at this; omega
        rw [chunk_get L s m i hi', ← hf.out] at hx
        rw [hB.cell hg, Nat.add_assoc]
        exact hc (f + i) x hx
      have HQ := Lib.hid hq
      have HCL := Lib.hid hcl
      have mm : min ((f : Int) + (s : Int)) (n : Int) = ((f + q : Nat) : Int) := by omega
      have b1 : (f : Int) ≤ ((f + q : Nat) : Int) := by omega
      have b2 : f ≤ f + q := by omega
      have b3 : f + q ≤ c := by omega
      have b4 : ((f + q : Nat) : Int) ≤ (c : Int) := by omega
      have hq0 : 0 < q := by omega
      have e1 : f + q - f = q := by omega
      clear hlen hq hcl hc hqs
      go_wp2_with fail
      · have e2 : n - f = (chunk L s m).length := by have := HQ.out; omega
        rw [e2]
        have hq1 : 0 < (chunk L s m).length := by have := HQ.out; omega
        have hq2 : (chunk L s m).length ≤ 100000 := by have := HQ.out; omega
        refine (clone_any g (off + f) (c - f) (chunk L s m) wr hq1 hq2 HCL.out).mono ?_
        rintro e w1 ⟨g', cap', rfl, hg', hc', hR, hb1⟩
        have hown1 := owns_below hBat.own (Nat.le_refl _) hb1
        have hs1 := hb1.size
        have hml : m ≤ 100000 := by
          have h := hm.out
          rcases Nat.eq_zero_or_pos m with e0 | e0
          · omega
          · have := h e0
            have : (m - 1) * 1 ≤ (m - 1) * s := Nat.mul_le_mul_left _ h1
            omega
        have HR := Lib.hid hR
        clear hR
        go_wp2_with (at_builtin; refine wpList_append_own_at _ rfl _ _ 34 rfl w.heap.size 24 i0 _ 1 24 Tw.und34 hi hz0 hz1 hz2 rfl (by decide) _ _ _ rfl (hown1.alloc _) ⟨w1.heap.size, 0, none⟩ 1 1 [.slice (some ⟨g', 0, none⟩) (chunk L s m).length cap'] rfl rfl ?c1 ?c2 ?c3 ?c4 ?c5 ?_)
        case c1 =>
          intro j u hu
          match j with
          | 0 => simp at hu; subst hu; simp [Addr.add, World.cell?_alloc_new]
          | j + 1 => simp at hu
        case c2 => intro u hu; simp at hu; subst hu; rfl
        case c3 => unfold maxLen; omega
        case c4 => omega
        case c5 => simp; omega
        intro v' w2 hown2 hgrow2 _ hblk
        have hbat2 := bat_next hBat hsz hb1 HR.out hg' hc' hgrow2 hown2 (by simpa using hblk)
        have hb2 : Below w.heap.size w w2 := ((hB.trans (hb1.mono hsz)).alloc (by omega) _).grown hgrow2 (by simp; omega) (fun k hk => (hBat.own.lt k hk).1)
        have HBA := Lib.hid hbat2
        clear hbat2 hown2 hgrow2 hblk hown1 hBat hB
        have hfs : f + s ≤ n + 64 := by omega
        go_wp2
        go_roundw
        case rel =>
          refine ⟨m + 1, f + s, _, _, ?_, hfs, by go_num, ?_, HBA.out, hb2⟩
          · show f + s = (m + 1) * s
            rw [hf.out, Nat.succ_mul]
          · show 0 < m + 1 → (m + 1 - 1) * s < n
            intro _
            rw [Nat.add_sub_cancel, ← hf.out]; exact hlt
        case measure => simp [intOf]; omega
      · have e2 : ((f : Int) + (s : Int)).toNat - f = (chunk L s m).length := by have := HQ.out; omega
        rw [e2]
        have hq1 : 0 < (chunk L s m).length := by have := HQ.out; omega
        have hq2 : (chunk L s m).length ≤ 100000 := by have := HQ.out; omega
        refine (clone_any g (off + f) (c - f) (chunk L s m) wr hq1 hq2 HCL.out).mono ?_
        rintro e w1 ⟨g', cap', rfl, hg', hc', hR, hb1⟩
        have hown1 := owns_below hBat.own (Nat.le_refl _) hb1
        have hs1 := hb1.size
        have hml : m ≤ 100000 := by
          have h := hm.out
          rcases Nat.eq_zero_or_pos m with e0 | e0
          · omega
          · have := h e0
            have : (m - 1) * 1 ≤ (m - 1) * s := Nat.mul_le_mul_left _ h1
            omega
        have HR := Lib.hid hR
        clear hR
        go_wp2_with (at_builtin; refine wpList_append_own_at _ rfl _ _ 34 rfl w.heap.size 24 i0 _ 1 24 Tw.und34 hi hz0 hz1 hz2 rfl (by decide) _ _ _ rfl (hown1.alloc _) ⟨w1.heap.size, 0, none⟩ 1 1 [.slice (some ⟨g', 0, none⟩) (chunk L s m).length cap'] rfl rfl ?c1 ?c2 ?c3 ?c4 ?c5 ?_)
        case c1 =>
          intro j u hu
          match j with
          | 0 => simp at hu; subst hu; simp [Addr.add, World.cell?_alloc_new]
          | j + 1 => simp at hu
        case c2 => intro u hu; simp at hu; subst hu; rfl
        case c3 => unfold maxLen; omega
        case c4 => omega
        case c5 => simp; omega
        intro v' w2 hown2 hgrow2 _ hblk
        have hbat2 := bat_next hBat hsz hb1 HR.out hg' hc' hgrow2 hown2 (by simpa using hblk)
        have hb2 : Below w.heap.size w w2 := ((hB.trans (hb1.mono hsz)).alloc (by omega) _).grown hgrow2 (by simp; omega) (fun k hk => (hBat.own.lt k hk).1)
        have HBA := Lib.hid hbat2
        clear hbat2 hown2 hgrow2 hblk hown1 hBat hB
        have hfs : f + s ≤ n + 64 := by omega
        go_wp2
        go_roundw
        case rel =>
          refine ⟨m + 1, f + s, _, _, ?_, hfs, by go_num, ?_, HBA.out, hb2⟩
          · show f + s = (m + 1) * s
            rw [hf.out, Nat.succ_mul]
          · show 0 < m + 1 → (m + 1 - 1) * s < n
            intro _
            rw [Nat.add_sub_cancel, ← hf.out]; exact hlt
        case measure => simp [intOf]; omega
    · have t3 : ¬ (f : Int) < (n : Int) := by omega
      have HBA := Lib.hid hBat
      clear hBat
      go_wp2
      go_ret2
      exact ⟨_, m, G, K, rfl, ⟨by rw [← hf.out]; omega, hm.out⟩, HBA.out, hB⟩
end Go.Proofs.Ytminoelijdpmeaa
