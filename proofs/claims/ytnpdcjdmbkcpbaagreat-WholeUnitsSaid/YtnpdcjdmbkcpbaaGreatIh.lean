/- The walk of the law WholeUnits. No condition. -/
import Derived.Test.YtnpdcjdmbkcpbaaGreatIi
import Derived.Test.YtnpdcjdmbkcpbaaGreatFj
namespace Go.Proofs.YtnpdcjdmbkcpbaaGreat.Ins
open Go.RowKit
set_option linter.unusedVariables false
set_option linter.unusedSimpArgs false

section
variable {w : World}
/-- alive's answer, in frames. -/
theorem alive_any (w : World) : Calls Tryz.prog 8 #[] w fun e w' => e = .returned (.bool true) ∧ Oth [] w w' := by
  refine (Ev.alive_calls w).mono ?_
  rintro e w' ⟨rfl, h1, h2, h3, h4, h5⟩
  exact ⟨rfl, h1, h2, h3, h4, fun k hk _ => h5 k hk⟩

set_option maxRecDepth 100000 in
set_option maxHeartbeats 8000000 in
theorem units_out {n ws : Int} (h : n < 1 ∨ 12 < n ∨ ws < 3 ∨ 30 < ws) : Calls Tryz.prog 4 #[.int .i64 n, .int .i64 ws] w fun e w' => e = .returned (.bool true) ∧ Oth [] w w' := by
  by_cases h1 : n < 1
  · clear h
    go_enter Tryz.func4, Tryz.ntmps4
    go_wp2_with ((with_reducible refine (alive_any _).mono ?_); rintro e w' ⟨rfl, ho⟩)
    go_ret
    exact ⟨rfl, ho⟩
  by_cases h2 : 12 < n
  · clear h
    go_enter Tryz.func4, Tryz.ntmps4
    go_wp2_with ((with_reducible refine (alive_any _).mono ?_); rintro e w' ⟨rfl, ho⟩)
    go_ret
    exact ⟨rfl, ho⟩
  by_cases h3 : ws < 3
  · clear h
    go_enter Tryz.func4, Tryz.ntmps4
    go_wp2_with ((with_reducible refine (alive_any _).mono ?_); rintro e w' ⟨rfl, ho⟩)
    go_ret
    exact ⟨rfl, ho⟩
  · have h4 : 30 < ws := by omega
    clear h
    go_enter Tryz.func4, Tryz.ntmps4
    go_wp2_with ((with_reducible refine (alive_any _).mono ?_); rintro e w' ⟨rfl, ho⟩)
    go_ret
    exact ⟨rfl, ho⟩

/-- While the law makes its chain: b the box; u1 u2 what lies in it; v1 v2 the rows; t1 t2 what is to be appended. -/
structure UA (w0 : World) (b : Nat) (u1 u2 v1 v2 : Value) (n1 n2 : Nat) (t1 t2 : Option Nat) (w : World) : Prop where
  box : w.heap[b]? = some (.cells #[u1, u2] 42 (0, 0))
  r1 : w.ownsRow 0 3 1 v1 n1 (List.replicate n1 (.int .i64 1))
  r2 : w.ownsRow 0 3 1 v2 n2 (List.replicate n2 (.int .i64 1))
  c1 : ∀ t, t1 = some t → ∀ j u, [Value.int .i64 1][j]? = some u → w.cell? ((⟨t, 0, none⟩ : Addr).add j) = some u
  c2 : ∀ t, t2 = some t → ∀ j u, [Value.int .i64 1][j]? = some u → w.cell? ((⟨t, 0, none⟩ : Addr).add j) = some u
  oth : Oth [] w0 w
  nb : w0.heap.size ≤ b
  d1 : ∀ g, v1.ownBlock = some g → w0.heap.size ≤ g ∧ g ≠ b ∧ t1 ≠ some g ∧ t2 ≠ some g ∧ v2.ownBlock ≠ some g
  d2 : ∀ g, v2.ownBlock = some g → w0.heap.size ≤ g ∧ g ≠ b ∧ t1 ≠ some g ∧ t2 ≠ some g
theorem tcell {w : World} {t : Nat} (h : w.cell? ⟨t, 0, none⟩ = some (.int .i64 1)) : ∀ j u, [Value.int .i64 1][j]? = some u → w.cell? ((⟨t, 0, none⟩ : Addr).add j) = some u := by
  intro j u hj
  match j, hj with
  | 0, hj => simp at hj; subst hj; rw [Addr.add_lit]; exact h
theorem tcell' {w : World} {t : Nat} (h : ∀ j u, [Value.int .i64 1][j]? = some u → w.cell? ((⟨t, 0, none⟩ : Addr).add j) = some u) : w.cell? ⟨t, 0, none⟩ = some (.int .i64 1) := by
  have := h 0 _ rfl
  rwa [Addr.add_lit] at this
theorem rep_own {w : World} {v : Value} {n : Nat} (h : w.ownsRow 0 3 1 v (n + 1) (List.replicate n (.int .i64 1) ++ [.int .i64 1])) : w.ownsRow 0 3 1 v (n + 1) (List.replicate (n + 1) (.int .i64 1)) := by
  rwa [List.replicate_succ' (n := n)]

section
variable {w0 w w' : World} {b n1 n2 : Nat} {u1 u2 v1 v2 v' : Value} {t1 t2 : Option Nat}
theorem UA.build1 (h : UA w0 b u1 u2 v1 v2 n1 n2 none t2 w) : UA w0 b u1 u2 v1 v2 n1 n2 (some w.heap.size) t2 (w.alloc (.cells #[.int .i64 1] 3)) := by
  have ho : Oth [] w (w.alloc (.cells #[.int .i64 1] 3)) := (Oth.refl _ _).alloc _
  refine ⟨ho.heap h.box (by simp), Row.own h.r1 ho (by simp), Row.own h.r2 ho (by simp), ?_, fun t ht => tcell (ho.cell (tcell' (h.c2 t ht)) (by simp)), h.oth.trans ho (Fr.nil _ _), h.nb, fun g hg => ?_, fun g hg => ?_⟩
  · intro t ht; cases ht; exact cell_one_new _ _ _
  · obtain ⟨a1, a2, a3, a4, a5⟩ := h.d1 g hg
    exact ⟨a1, a2, fun e => by cases e; have := (h.r1.lt _ hg).2; omega, a4, a5⟩
  · obtain ⟨a1, a2, a3, a4⟩ := h.d2 g hg
    exact ⟨a1, a2, fun e => by cases e; have := (h.r2.lt _ hg).2; omega, a4⟩
theorem UA.build2 (h : UA w0 b u1 u2 v1 v2 n1 n2 t1 none w) : UA w0 b u1 u2 v1 v2 n1 n2 t1 (some w.heap.size) (w.alloc (.cells #[.int .i64 1] 3)) := by
  have ho : Oth [] w (w.alloc (.cells #[.int .i64 1] 3)) := (Oth.refl _ _).alloc _
  refine ⟨ho.heap h.box (by simp), Row.own h.r1 ho (by simp), Row.own h.r2 ho (by simp), fun t ht => tcell (ho.cell (tcell' (h.c1 t ht)) (by simp)), ?_, h.oth.trans ho (Fr.nil _ _), h.nb, fun g hg => ?_, fun g hg => ?_⟩
  · intro t ht; cases ht; exact cell_one_new _ _ _
  · obtain ⟨a1, a2, a3, a4, a5⟩ := h.d1 g hg
    exact ⟨a1, a2, a3, fun e => by cases e; have := (h.r1.lt _ hg).2; omega, a5⟩
  · obtain ⟨a1, a2, a3, a4⟩ := h.d2 g hg
    exact ⟨a1, a2, a3, fun e => by cases e; have := (h.r2.lt _ hg).2; omega⟩
theorem UA.app1 (h : UA w0 b u1 u2 v1 v2 n1 n2 t1 t2 w) (hown : w'.ownsRow 0 3 1 v' (n1 + 1) (List.replicate n1 (.int .i64 1) ++ [.int .i64 1])) (hg : w.grownBy w' v1.ownBlock) (hat : v'.ownBlock = v1.ownBlock ∨ v'.ownBlock = some w.heap.size) :
    UA w0 b u1 u2 v' v2 (n1 + 1) n2 t1 t2 w' := by
  have ho : Oth v1.ownBlock.toList w w' := (Oth.refl _ _).grown hg (fun k hk => .inl (by simp [hk]))
  have hne : ∀ g, v1.ownBlock = some g → w0.heap.size ≤ g ∧ g ≠ b ∧ t1 ≠ some g ∧ t2 ≠ some g ∧ v2.ownBlock ≠ some g := h.d1
  have hbl := lt_of_block h.box
  have hos := h.oth.size
  refine ⟨ho.heap h.box fun e => (hne b (by simpa using e)).2.1 rfl, rep_own hown, Row.own h.r2 ho (fun g hg e => (hne g (by simpa using e)).2.2.2.2 hg), fun t ht => tcell (ho.cell (tcell' (h.c1 t ht)) fun e => (hne t (by simpa using e)).2.2.1 ht), fun t ht => tcell (ho.cell (tcell' (h.c2 t ht)) fun e => (hne t (by simpa using e)).2.2.2.1 ht), h.oth.trans ho (fun k hk => .inr (hne k (by simpa using hk)).1), h.nb, fun g hg => ?_, h.d2⟩
  rcases hat with e | e
  · exact h.d1 g (e ▸ hg)
  · rw [e] at hg; cases hg
    refine ⟨hos, by omega, fun e => ?_, fun e => ?_, fun e => ?_⟩
    · have := World.block_lt_of_cell? _ _ (tcell' (h.c1 _ e)); simp at this
    · have := World.block_lt_of_cell? _ _ (tcell' (h.c2 _ e)); simp at this
    · have := (h.r2.lt _ e).2; omega
theorem UA.app2 (h : UA w0 b u1 u2 v1 v2 n1 n2 t1 t2 w) (hown : w'.ownsRow 0 3 1 v' (n2 + 1) (List.replicate n2 (.int .i64 1) ++ [.int .i64 1])) (hg : w.grownBy w' v2.ownBlock) (hat : v'.ownBlock = v2.ownBlock ∨ v'.ownBlock = some w.heap.size) :
    UA w0 b u1 u2 v1 v' n1 (n2 + 1) t1 t2 w' := by
  have ho : Oth v2.ownBlock.toList w w' := (Oth.refl _ _).grown hg (fun k hk => .inl (by simp [hk]))
  have hne : ∀ g, v2.ownBlock = some g → w0.heap.size ≤ g ∧ g ≠ b ∧ t1 ≠ some g ∧ t2 ≠ some g := h.d2
  have hbl := lt_of_block h.box
  have hos := h.oth.size
  refine ⟨ho.heap h.box fun e => (hne b (by simpa using e)).2.1 rfl, Row.own h.r1 ho (fun g hg e => (h.d1 g hg).2.2.2.2 (by simpa using e)), rep_own hown, fun t ht => tcell (ho.cell (tcell' (h.c1 t ht)) fun e => (hne t (by simpa using e)).2.2.1 ht), fun t ht => tcell (ho.cell (tcell' (h.c2 t ht)) fun e => (hne t (by simpa using e)).2.2.2 ht), h.oth.trans ho (fun k hk => .inr (hne k (by simpa using hk)).1), h.nb, fun g hg => ?_, fun g hg => ?_⟩
  · obtain ⟨a1, a2, a3, a4, a5⟩ := h.d1 g hg
    refine ⟨a1, a2, a3, a4, fun e2 => ?_⟩
    rcases hat with e | e
    · rw [e] at e2; exact a5 e2
    · rw [e] at e2; cases e2; have := (h.r1.lt _ hg).2; omega
  · rcases hat with e | e
    · exact h.d2 g (e ▸ hg)
    · rw [e] at hg; cases hg
      refine ⟨hos, by omega, fun e => ?_, fun e => ?_⟩
      · have := World.block_lt_of_cell? _ _ (tcell' (h.c1 _ e)); simp at this
      · have := World.block_lt_of_cell? _ _ (tcell' (h.c2 _ e)); simp at this
theorem UA.cells (h : UA w0 b u1 u2 v1 v2 n1 n2 t1 t2 w) : w.cell? ⟨b, 0, none⟩ = some u1 ∧ w.cell? ⟨b, 1, none⟩ = some u2 ∧ w.frozen? ⟨b, 0, none⟩ = false ∧ w.frozen? ⟨b, 1, none⟩ = false := by
  simp [World.cell?, World.frozen?, h.box]
theorem UA.shut (h : UA w0 b u1 u2 v1 v2 n1 n2 t1 t2 w) : UA w0 b v1 v2 v1 v2 n1 n2 none none ((w.setCell ⟨b, 0, none⟩ v1).setCell ⟨b, 1, none⟩ v2) := by
  have ho : Oth [b] w ((w.setCell ⟨b, 0, none⟩ v1).setCell ⟨b, 1, none⟩ v2) := ((Oth.refl _ _).setCell (.inl (by simp)) _).setCell (.inl (by simp)) _
  refine ⟨by simp [World.setCell, Array.getElem?_modify, h.box], Row.own h.r1 ho (fun g hg => by simpa using (h.d1 g hg).2.1), Row.own h.r2 ho (fun g hg => by simpa using (h.d2 g hg).2.1), (fun t ht => by cases ht), (fun t ht => by cases ht), h.oth.trans ho (fun k hk => .inr (by simp at hk; have := h.nb; omega)), h.nb, fun g hg => ?_, fun g hg => ?_⟩
  · obtain ⟨a1, a2, a3, a4, a5⟩ := h.d1 g hg
    exact ⟨a1, a2, by simp, by simp, a5⟩
  · obtain ⟨a1, a2, a3, a4⟩ := h.d2 g hg
    exact ⟨a1, a2, by simp, by simp⟩
theorem cell0_of (h : w.heap[b]? = some (.cells #[u1, u2] 42 (0, 0))) : w.cell? ⟨b, 0, none⟩ = some u1 := by simp [World.cell?, h]
theorem cell1_of (h : w.heap[b]? = some (.cells #[u1, u2] 42 (0, 0))) : w.cell? ⟨b, 1, none⟩ = some u2 := by simp [World.cell?, h]
end

theorem ua_init (w : World) : UA w (w.heap.size + 1) (.slice (some ⟨w.heap.size, 0, none⟩) 1 1) (.slice none 0 0) (.slice (some ⟨w.heap.size, 0, none⟩) 1 1) (.slice none 0 0) (0 + 1) 0 none none
    ((w.alloc (.cells #[.int .i64 1] 3)).alloc (.cells #[.slice (some ⟨w.heap.size, 0, none⟩) 1 1, .slice none 0 0] 42)) := by
  have k1 := heap_alloc_new (w.alloc (.cells #[.int .i64 1] 3)) (.cells #[.slice (some ⟨w.heap.size, 0, none⟩) 1 1, .slice none 0 0] 42)
  rw [World.size_alloc] at k1
  have k2 := ((Oth.refl [] (w.alloc (.cells #[.int .i64 1] 3))).alloc (.cells #[.slice (some ⟨w.heap.size, 0, none⟩) 1 1, .slice none 0 0] 42)).heap (heap_alloc_new w (.cells #[.int .i64 1] 3)) (by simp)
  refine ⟨k1, ⟨rfl, .inr ⟨_, _, _, rfl, Nat.zero_le _, k2, by omega, by unfold maxLen; omega, rfl, rfl⟩⟩, ⟨rfl, .inl ⟨rfl, rfl⟩⟩, (fun t ht => by cases ht), (fun t ht => by cases ht), ((Oth.refl _ _).alloc _).alloc _, by omega, fun g hg => ?_, fun g hg => by cases hg⟩
  simp [Value.ownBlock] at hg
  subst hg
  exact ⟨Nat.le_refl _, by omega, by simp, by simp, by simp [Value.ownBlock]⟩
theorem info3' : ∃ i, Tryz.prog.info? 3 = some i ∧ i.zero = some (.int .i64 0) ∧ i.size = 1 ∧ i.bytes = 8 := info_parts' info3
theorem row_ints {g len c : Nat} {w : World} {xs : List Nat} (h : Row 3 1 g len c (iv xs) w) : Ints g xs w := fun i x hx => h.cell (j := i) (by simp [iv, hx])
theorem iv_rep (n : Nat) : iv (List.replicate n 1) = List.replicate n (.int .i64 1) := by simp [iv]
theorem wsum_unit (n : Nat) : ∀ j, j ≤ n → wsum (List.replicate (n + 1) 1) j = 2 * j
  | 0, _ => rfl
  | j + 1, h => by
    rw [wsum, wsum_unit n j (by omega), rep_get _ _ (by omega)]; omega
/-- What the chain of n nodes costs with M words. -/
def ucost (n M : Nat) : Nat := vl (par0 M (List.replicate (n + 1) 1) (List.replicate n 1)) 0 n M
theorem ucost_ok {n M : Nat} (h1 : 1 ≤ n) (h2 : n ≤ 12) (h3 : 3 ≤ M ∨ n = 1 ∧ 1 ≤ M) : ucost n M < nn ∧ n ≤ ucost n M ∧ ucost n M ≤ n + tri (n - 1) :=
  unit_least (C := par0 M (List.replicate (n + 1) 1) (List.replicate n 1)) (n := n) (rec_full _) rfl rfl h1 (by omega) h3
theorem ucost_all {n M : Nat} (h1 : 1 ≤ n) (h2 : n ≤ 12) (h3 : n + 1 ≤ M) : ucost n M = n :=
  unit_all (C := par0 M (List.replicate (n + 1) 1) (List.replicate n 1)) (n := n) (rec_full _) rfl rfl h1 (by omega) h3
/-- What the plan does. -/
theorem plan_runs {ws cs : List Nat} {cap M p g1 c1 g2 c2 mb s' : Nat} {code : List (Nat × Nat)} (hf : Fine ws cs cap) (hM : M ≤ cap) (h : Wr (par p g1 c1 g2 c2 mb M ws cs) 0 cs.length M 0 s' code) (hv : vl (par0 M ws cs) 0 cs.length M < nn) :
    ∃ σ, Runs ws cs cs.length cap (ws0 cs.length) code σ ∧ σ.cost = vl (par0 M ws cs) 0 cs.length M ∧ σ.peak ≤ M ∧ σ.last = 0 ∧ σ.em = true := by
  have hG := good_par (p := p) (g1 := g1) (c1 := c1) (g2 := g2) (c2 := c2) (mb := mb) hf hM
  have hn := hf.n2
  have hv2 := vl_par (p := p) (g1 := g1) (c1 := c1) (g2 := g2) (c2 := c2) (mb := mb) (cap := M) (ws := ws) (cs := cs) 0 cs.length M
  have hi : PIn (par p g1 c1 g2 c2 mb M ws cs) 0 cs.length 0 0 (ws0 cs.length) := by
    refine ⟨rfl, fun id h1 h2 => ?_, fun id h1 => ?_, Nat.le_refl _, fun h => absurd h (Nat.lt_irrefl _), rfl, ?_, fun id => ?_, ?_, ?_⟩
    · show on (fun _ => false) 0 true id = false
      rw [on_ne _ _ (by omega)]
    · show false = _
      exact (decide_eq_false (by omega)).symm
    · show 0 = 0 + (if cs.length = cs.length then 0 else _)
      rw [if_pos rfl]
    · show false = decide (id = cs.length ∧ cs.length ≠ cs.length)
      exact (decide_eq_false (by omega)).symm
    · show false = decide (cs.length ≠ cs.length)
      exact (decide_eq_false (by omega)).symm
    · show false = decide (cs.length ≠ cs.length)
      exact (decide_eq_false (by omega)).symm
  obtain ⟨σ, r1, r2⟩ := part_law hG (rec_full _) (cap := cap) h (B := 0) (σ := ws0 cs.length) (by omega) (Nat.le_refl _) (by show M < M + 1 - 0; omega) (by rw [hv2]; exact hv) hi (by omega)
  refine ⟨σ, r1, ?_, ?_, r2.last, r2.em⟩
  · rw [r2.cost, hv2]; show 0 + _ = _; omega
  · have := r2.peak
    have h0 : (ws0 cs.length).peak = 0 := rfl
    omega
theorem tri_mul {n : Nat} (h1 : 1 ≤ n) : (n : Int) * ((n : Int) - 1) = 2 * (tri (n - 1) : Int) := by
  have h := tri_two (n - 1)
  obtain ⟨m, rfl⟩ : ∃ m, n = m + 1 := ⟨n - 1, by omega⟩
  rw [Nat.add_sub_cancel] at h ⊢
  have e : ((m + 1 : Nat) : Int) * (((m + 1 : Nat) : Int) - 1) = 2 * (tri m : Int) := by
    have : (2 : Int) * (tri m : Int) = (m : Int) * ((m : Int) + 1) := by exact_mod_cast h
    rw [this]
    rw [show ((m + 1 : Nat) : Int) - 1 = (m : Int) by omega, show ((m + 1 : Nat) : Int) = (m : Int) + 1 by omega, Int.mul_comm]
  exact e
theorem tri_div {n : Nat} (h1 : 1 ≤ n) : ((n : Int) * ((n : Int) - 1)).tdiv 2 = (tri (n - 1) : Int) := by
  rw [tri_mul h1, Int.mul_tdiv_cancel_left _ (by omega)]

set_option maxRecDepth 100000 in
set_option maxHeartbeats 8000000 in
theorem units_in {n ws : Nat} (h1 : 1 ≤ n) (h2 : n ≤ 12) (h3 : 3 ≤ ws) (h4 : ws ≤ 30) : Calls Tryz.prog 4 #[.int .i64 n, .int .i64 ws] w fun e w' => e = .returned (.bool true) ∧ Oth [] w w' := by
  have t1 : ¬ (n : Int) < 1 := by omega
  have t2 : ¬ (12 : Int) < n := by omega
  have t3 : ¬ (ws : Int) < 3 := by omega
  have t4 : ¬ (30 : Int) < ws := by omega
  obtain ⟨i0, hi, hz0, hz1, hz2⟩ := info3'
  have HI := Lib.hid (And.intro hz0 (And.intro hz1 hz2))
  go_enter Tryz.func4, Tryz.ntmps4
  go_wp2_with fail
  go_loopw [33] (fun x wr => ∃ (m : Nat) (v1 v2 : Value), m ≤ n ∧ x = .int .i64 m ∧ UA w (w.heap.size + 1) v1 v2 v1 v2 (m + 1) m none none wr) (fun x _ => n - (intOf x).toNat)
  case atStart =>
    exact ⟨0, .slice (some ⟨w.heap.size, 0, none⟩) 1 1, .slice none 0 0, by omega, rfl, ua_init w⟩
  case round =>
    obtain ⟨m, v1, v2, hm, rfl, hU⟩ := hrel
    by_cases hlt : m < n
    · have t5 : (m : Int) < n := by omega
      have hU0 := Lib.hid hU
      clear hU
      go_wp2_with fail
      refine wp_region_heldU (fun w' => w'.heap[w.heap.size + 1]? = some (.cells #[v1, v2] 42 (0, 0))) (fun i => Nat.ble 9 i) (by kernel_rfl) ?_
      have hS := hU0.out.box
      have hm1 : m + 1 + 1 ≤ maxLen := by unfold maxLen; omega
      have hm2 : (m + 1 + 1) * 8 ≤ 140737488355328 := by omega
      have hm3 : m + 1 ≤ maxLen := by unfold maxLen; omega
      have hm4 : (m + 1) * 8 ≤ 140737488355328 := by omega
      refine wpAnyU_take (i := 0) (v := ?v0) rfl (by kernel_rfl) (by kernel_rfl) (by kernel_rfl) (by kernel_rfl) (by rfl) (fun _ _ _ h => h) (Or.inl ⟨by rfl, ?y0⟩) hS ?_
      case y0 => intro w hSw; go_simp; try with_reducible rfl
      try simp only [Act.put, List.setIfInBounds_toArray, List.set_cons_zero, List.set_cons_succ, List.getElem_toArray, List.getElem_cons_zero, List.getElem_cons_succ]
      refine wpAnyU_take (i := 1) (v := ?v1) rfl (by kernel_rfl) (by kernel_rfl) (by kernel_rfl) (by kernel_rfl) (by rfl) (fun _ _ _ h => h) (Or.inl ⟨by rfl, ?y1⟩) hS ?_
      case y1 => intro w hSw; have q0 := cell0_of hSw; have q1 := cell1_of hSw; go_simp; try with_reducible rfl
      try simp only [Act.put, List.setIfInBounds_toArray, List.set_cons_zero, List.set_cons_succ, List.getElem_toArray, List.getElem_cons_zero, List.getElem_cons_succ]
      refine wpAnyU_take (i := 4) (v := ?v4) rfl (by kernel_rfl) (by kernel_rfl) (by kernel_rfl) (by kernel_rfl) (by rfl) (fun _ _ _ h => h) (Or.inl ⟨by rfl, ?y4⟩) hS ?_
      case y4 => intro w hSw; go_simp; try with_reducible rfl
      try simp only [Act.put, List.setIfInBounds_toArray, List.set_cons_zero, List.set_cons_succ, List.getElem_toArray, List.getElem_cons_zero, List.getElem_cons_succ]
      refine wpAnyU_take (i := 5) (v := ?v5) rfl (by kernel_rfl) (by kernel_rfl) (by kernel_rfl) (by kernel_rfl) (by rfl) (fun _ _ _ h => h) (Or.inl ⟨by rfl, ?y5⟩) hS ?_
      case y5 => intro w hSw; have q0 := cell0_of hSw; have q1 := cell1_of hSw; go_simp; try with_reducible rfl
      try simp only [Act.put, List.setIfInBounds_toArray, List.set_cons_zero, List.set_cons_succ, List.getElem_toArray, List.getElem_cons_zero, List.getElem_cons_succ]
      refine wpAnyU_ready (rs := [2, 6]) (by kernel_rfl) (by simp) ?_
      refine AllReadyU.cons rfl (fun K hK => ?_) ?_
      · have hn := Lib.hid (hU0.out.build1)
        go_simp
        refine hK.out _ _ (fun _ => hn.out.box) ?_
        clear hK K
        try simp only [Act.put, List.setIfInBounds_toArray, List.set_cons_zero, List.set_cons_succ, List.getElem_toArray, List.getElem_cons_zero, List.getElem_cons_succ]
        have hU1 := hn
        clear hn
        refine wpAnyU_ready (rs := [3, 6]) (by kernel_rfl) (by simp) ?_
        refine AllReadyU.cons rfl (fun K hK => ?_) ?_
        · skip
          refine step_append_own rfl (.tmp 36) (.tmp 37) 22 rfl 0 3 i0 _ 1 8 Tryz.underlying22 hi hz0 hz1 hz2 rfl (by decide) v1 (m + 1) _ rfl hU1.out.r1 ⟨_, 0, none⟩ 1 1 [.int .i64 1] rfl rfl (hU1.out.c1 _ (by simp)) (by intro u hu; simp at hu; subst hu; rfl) hm1 hm2 (Nat.zero_le _) ?_
          intro v1' w1 hown hgrow hat
          have hn := Lib.hid (hU1.out.app1 hown ⟨hgrow.os, hgrow.tape, hgrow.output, hgrow.size, hgrow.block⟩ hat)
          clear hown hgrow hat
          refine hK.out _ _ (fun _ => hn.out.box) ?_
          clear hK K
          try simp only [Act.put, List.setIfInBounds_toArray, List.set_cons_zero, List.set_cons_succ, List.getElem_toArray, List.getElem_cons_zero, List.getElem_cons_succ]
          have hU2 := hn
          clear hn
          refine wpAnyU_take (i := 8) (v := ?v8) rfl (by kernel_rfl) (by kernel_rfl) (by kernel_rfl) (by kernel_rfl) (by rfl) (fun _ _ _ h => h) (Or.inl ⟨by rfl, ?y8⟩) hU2.out.box ?_
          case y8 => intro w hSw; go_simp; try with_reducible rfl
          try simp only [Act.put, List.setIfInBounds_toArray, List.set_cons_zero, List.set_cons_succ, List.getElem_toArray, List.getElem_cons_zero, List.getElem_cons_succ]
          refine wpAnyU_ready (rs := [6]) (by kernel_rfl) (by simp) ?_
          refine AllReadyU.cons rfl (fun K hK => ?_) ?_
          · have hn := Lib.hid (hU2.out.build2)
            go_simp
            refine hK.out _ _ (fun _ => hn.out.box) ?_
            clear hK K
            try simp only [Act.put, List.setIfInBounds_toArray, List.set_cons_zero, List.set_cons_succ, List.getElem_toArray, List.getElem_cons_zero, List.getElem_cons_succ]
            have hU3 := hn
            clear hn
            refine wpAnyU_ready (rs := [7]) (by kernel_rfl) (by simp) ?_
            refine AllReadyU.cons rfl (fun K hK => ?_) ?_
            · skip
              refine step_append_own rfl (.tmp 40) (.tmp 41) 22 rfl 0 3 i0 _ 1 8 Tryz.underlying22 hi hz0 hz1 hz2 rfl (by decide) v2 m _ rfl hU3.out.r2 ⟨_, 0, none⟩ 1 1 [.int .i64 1] rfl rfl (hU3.out.c2 _ (by simp)) (by intro u hu; simp at hu; subst hu; rfl) hm3 hm4 (Nat.zero_le _) ?_
              intro v2' w2 hown hgrow hat
              have hn := Lib.hid (hU3.out.app2 hown ⟨hgrow.os, hgrow.tape, hgrow.output, hgrow.size, hgrow.block⟩ hat)
              clear hown hgrow hat
              refine hK.out _ _ (fun _ => hn.out.box) ?_
              clear hK K
              try simp only [Act.put, List.setIfInBounds_toArray, List.set_cons_zero, List.set_cons_succ, List.getElem_toArray, List.getElem_cons_zero, List.getElem_cons_succ]
              have hU4 := hn
              clear hn
              obtain ⟨f0, f1, f2, f3⟩ := hU4.out.cells
              obtain ⟨ga, ca, rfl, _, _⟩ := row_of_owns hU4.out.r1 (by omega)
              obtain ⟨gb, cb, rfl, _, _⟩ := row_of_owns hU4.out.r2 (by omega)
              refine wpAnyU_ready (rs := [9]) (by kernel_rfl) (by simp) ?_
              refine AllReadyU.cons rfl (fun K hK => ?_) AllReadyU.nil
              go_simp
              refine hK.out _ _ (fun h => absurd h (by decide)) ?_
              clear hK K
              try simp only [Act.put, List.setIfInBounds_toArray, List.set_cons_zero, List.set_cons_succ, List.getElem_toArray, List.getElem_cons_zero, List.getElem_cons_succ]
              refine wpAnyU_ready (rs := [10]) (by kernel_rfl) (by simp) ?_
              refine AllReadyU.cons rfl (fun K hK => ?_) AllReadyU.nil
              go_simp
              refine hK.out _ _ (fun h => absurd h (by decide)) ?_
              clear hK K
              try simp only [Act.put, List.setIfInBounds_toArray, List.set_cons_zero, List.set_cons_succ, List.getElem_toArray, List.getElem_cons_zero, List.getElem_cons_succ]
              refine wpAnyU_ready (rs := [11]) (by kernel_rfl) (by simp) ?_
              refine AllReadyU.cons rfl (fun K hK => ?_) AllReadyU.nil
              go_simp
              refine hK.out _ _ (fun h => absurd h (by decide)) ?_
              clear hK K
              try simp only [Act.put, List.setIfInBounds_toArray, List.set_cons_zero, List.set_cons_succ, List.getElem_toArray, List.getElem_cons_zero, List.getElem_cons_succ]
              refine wpAnyU_done (by kernel_rfl) ?_ _
              have HB := Lib.hid hU4.out.shut
              clear hU4 f0 f1 f2 f3
              go_wp2_with fail
              go_roundw
              case rel => exact ⟨m + 1, _, _, by omega, by go_num, HB.out⟩
              case measure => simp [intOf]; omega
            exact AllReadyU.nil
          exact AllReadyU.nil
        refine AllReadyU.cons rfl (fun K hK => ?_) ?_
        · have hn := Lib.hid (hU1.out.build2)
          go_simp
          refine hK.out _ _ (fun _ => hn.out.box) ?_
          clear hK K
          try simp only [Act.put, List.setIfInBounds_toArray, List.set_cons_zero, List.set_cons_succ, List.getElem_toArray, List.getElem_cons_zero, List.getElem_cons_succ]
          have hU2 := hn
          clear hn
          refine wpAnyU_ready (rs := [3]) (by kernel_rfl) (by simp) ?_
          refine AllReadyU.cons rfl (fun K hK => ?_) ?_
          · skip
            refine step_append_own rfl (.tmp 36) (.tmp 37) 22 rfl 0 3 i0 _ 1 8 Tryz.underlying22 hi hz0 hz1 hz2 rfl (by decide) v1 (m + 1) _ rfl hU2.out.r1 ⟨_, 0, none⟩ 1 1 [.int .i64 1] rfl rfl (hU2.out.c1 _ (by simp)) (by intro u hu; simp at hu; subst hu; rfl) hm1 hm2 (Nat.zero_le _) ?_
            intro v1' w1 hown hgrow hat
            have hn := Lib.hid (hU2.out.app1 hown ⟨hgrow.os, hgrow.tape, hgrow.output, hgrow.size, hgrow.block⟩ hat)
            clear hown hgrow hat
            refine hK.out _ _ (fun _ => hn.out.box) ?_
            clear hK K
            try simp only [Act.put, List.setIfInBounds_toArray, List.set_cons_zero, List.set_cons_succ, List.getElem_toArray, List.getElem_cons_zero, List.getElem_cons_succ]
            have hU3 := hn
            clear hn
            refine wpAnyU_take (i := 8) (v := ?v8) rfl (by kernel_rfl) (by kernel_rfl) (by kernel_rfl) (by kernel_rfl) (by rfl) (fun _ _ _ h => h) (Or.inl ⟨by rfl, ?y8⟩) hU3.out.box ?_
            case y8 => intro w hSw; go_simp; try with_reducible rfl
            try simp only [Act.put, List.setIfInBounds_toArray, List.set_cons_zero, List.set_cons_succ, List.getElem_toArray, List.getElem_cons_zero, List.getElem_cons_succ]
            refine wpAnyU_ready (rs := [7]) (by kernel_rfl) (by simp) ?_
            refine AllReadyU.cons rfl (fun K hK => ?_) ?_
            · skip
              refine step_append_own rfl (.tmp 40) (.tmp 41) 22 rfl 0 3 i0 _ 1 8 Tryz.underlying22 hi hz0 hz1 hz2 rfl (by decide) v2 m _ rfl hU3.out.r2 ⟨_, 0, none⟩ 1 1 [.int .i64 1] rfl rfl (hU3.out.c2 _ (by simp)) (by intro u hu; simp at hu; subst hu; rfl) hm3 hm4 (Nat.zero_le _) ?_
              intro v2' w2 hown hgrow hat
              have hn := Lib.hid (hU3.out.app2 hown ⟨hgrow.os, hgrow.tape, hgrow.output, hgrow.size, hgrow.block⟩ hat)
              clear hown hgrow hat
              refine hK.out _ _ (fun _ => hn.out.box) ?_
              clear hK K
              try simp only [Act.put, List.setIfInBounds_toArray, List.set_cons_zero, List.set_cons_succ, List.getElem_toArray, List.getElem_cons_zero, List.getElem_cons_succ]
              have hU4 := hn
              clear hn
              obtain ⟨f0, f1, f2, f3⟩ := hU4.out.cells
              obtain ⟨ga, ca, rfl, _, _⟩ := row_of_owns hU4.out.r1 (by omega)
              obtain ⟨gb, cb, rfl, _, _⟩ := row_of_owns hU4.out.r2 (by omega)
              refine wpAnyU_ready (rs := [9]) (by kernel_rfl) (by simp) ?_
              refine AllReadyU.cons rfl (fun K hK => ?_) AllReadyU.nil
              go_simp
              refine hK.out _ _ (fun h => absurd h (by decide)) ?_
              clear hK K
              try simp only [Act.put, List.setIfInBounds_toArray, List.set_cons_zero, List.set_cons_succ, List.getElem_toArray, List.getElem_cons_zero, List.getElem_cons_succ]
              refine wpAnyU_ready (rs := [10]) (by kernel_rfl) (by simp) ?_
              refine AllReadyU.cons rfl (fun K hK => ?_) AllReadyU.nil
              go_simp
              refine hK.out _ _ (fun h => absurd h (by decide)) ?_
              clear hK K
              try simp only [Act.put, List.setIfInBounds_toArray, List.set_cons_zero, List.set_cons_succ, List.getElem_toArray, List.getElem_cons_zero, List.getElem_cons_succ]
              refine wpAnyU_ready (rs := [11]) (by kernel_rfl) (by simp) ?_
              refine AllReadyU.cons rfl (fun K hK => ?_) AllReadyU.nil
              go_simp
              refine hK.out _ _ (fun h => absurd h (by decide)) ?_
              clear hK K
              try simp only [Act.put, List.setIfInBounds_toArray, List.set_cons_zero, List.set_cons_succ, List.getElem_toArray, List.getElem_cons_zero, List.getElem_cons_succ]
              refine wpAnyU_done (by kernel_rfl) ?_ _
              have HB := Lib.hid hU4.out.shut
              clear hU4 f0 f1 f2 f3
              go_wp2_with fail
              go_roundw
              case rel => exact ⟨m + 1, _, _, by omega, by go_num, HB.out⟩
              case measure => simp [intOf]; omega
            exact AllReadyU.nil
          exact AllReadyU.nil
        exact AllReadyU.nil
      refine AllReadyU.cons rfl (fun K hK => ?_) ?_
      · have hn := Lib.hid (hU0.out.build2)
        go_simp
        refine hK.out _ _ (fun _ => hn.out.box) ?_
        clear hK K
        try simp only [Act.put, List.setIfInBounds_toArray, List.set_cons_zero, List.set_cons_succ, List.getElem_toArray, List.getElem_cons_zero, List.getElem_cons_succ]
        have hU1 := hn
        clear hn
        refine wpAnyU_ready (rs := [2]) (by kernel_rfl) (by simp) ?_
        refine AllReadyU.cons rfl (fun K hK => ?_) ?_
        · have hn := Lib.hid (hU1.out.build1)
          go_simp
          refine hK.out _ _ (fun _ => hn.out.box) ?_
          clear hK K
          try simp only [Act.put, List.setIfInBounds_toArray, List.set_cons_zero, List.set_cons_succ, List.getElem_toArray, List.getElem_cons_zero, List.getElem_cons_succ]
          have hU2 := hn
          clear hn
          refine wpAnyU_ready (rs := [3]) (by kernel_rfl) (by simp) ?_
          refine AllReadyU.cons rfl (fun K hK => ?_) ?_
          · skip
            refine step_append_own rfl (.tmp 36) (.tmp 37) 22 rfl 0 3 i0 _ 1 8 Tryz.underlying22 hi hz0 hz1 hz2 rfl (by decide) v1 (m + 1) _ rfl hU2.out.r1 ⟨_, 0, none⟩ 1 1 [.int .i64 1] rfl rfl (hU2.out.c1 _ (by simp)) (by intro u hu; simp at hu; subst hu; rfl) hm1 hm2 (Nat.zero_le _) ?_
            intro v1' w1 hown hgrow hat
            have hn := Lib.hid (hU2.out.app1 hown ⟨hgrow.os, hgrow.tape, hgrow.output, hgrow.size, hgrow.block⟩ hat)
            clear hown hgrow hat
            refine hK.out _ _ (fun _ => hn.out.box) ?_
            clear hK K
            try simp only [Act.put, List.setIfInBounds_toArray, List.set_cons_zero, List.set_cons_succ, List.getElem_toArray, List.getElem_cons_zero, List.getElem_cons_succ]
            have hU3 := hn
            clear hn
            refine wpAnyU_take (i := 8) (v := ?v8) rfl (by kernel_rfl) (by kernel_rfl) (by kernel_rfl) (by kernel_rfl) (by rfl) (fun _ _ _ h => h) (Or.inl ⟨by rfl, ?y8⟩) hU3.out.box ?_
            case y8 => intro w hSw; go_simp; try with_reducible rfl
            try simp only [Act.put, List.setIfInBounds_toArray, List.set_cons_zero, List.set_cons_succ, List.getElem_toArray, List.getElem_cons_zero, List.getElem_cons_succ]
            refine wpAnyU_ready (rs := [7]) (by kernel_rfl) (by simp) ?_
            refine AllReadyU.cons rfl (fun K hK => ?_) ?_
            · skip
              refine step_append_own rfl (.tmp 40) (.tmp 41) 22 rfl 0 3 i0 _ 1 8 Tryz.underlying22 hi hz0 hz1 hz2 rfl (by decide) v2 m _ rfl hU3.out.r2 ⟨_, 0, none⟩ 1 1 [.int .i64 1] rfl rfl (hU3.out.c2 _ (by simp)) (by intro u hu; simp at hu; subst hu; rfl) hm3 hm4 (Nat.zero_le _) ?_
              intro v2' w2 hown hgrow hat
              have hn := Lib.hid (hU3.out.app2 hown ⟨hgrow.os, hgrow.tape, hgrow.output, hgrow.size, hgrow.block⟩ hat)
              clear hown hgrow hat
              refine hK.out _ _ (fun _ => hn.out.box) ?_
              clear hK K
              try simp only [Act.put, List.setIfInBounds_toArray, List.set_cons_zero, List.set_cons_succ, List.getElem_toArray, List.getElem_cons_zero, List.getElem_cons_succ]
              have hU4 := hn
              clear hn
              obtain ⟨f0, f1, f2, f3⟩ := hU4.out.cells
              obtain ⟨ga, ca, rfl, _, _⟩ := row_of_owns hU4.out.r1 (by omega)
              obtain ⟨gb, cb, rfl, _, _⟩ := row_of_owns hU4.out.r2 (by omega)
              refine wpAnyU_ready (rs := [9]) (by kernel_rfl) (by simp) ?_
              refine AllReadyU.cons rfl (fun K hK => ?_) AllReadyU.nil
              go_simp
              refine hK.out _ _ (fun h => absurd h (by decide)) ?_
              clear hK K
              try simp only [Act.put, List.setIfInBounds_toArray, List.set_cons_zero, List.set_cons_succ, List.getElem_toArray, List.getElem_cons_zero, List.getElem_cons_succ]
              refine wpAnyU_ready (rs := [10]) (by kernel_rfl) (by simp) ?_
              refine AllReadyU.cons rfl (fun K hK => ?_) AllReadyU.nil
              go_simp
              refine hK.out _ _ (fun h => absurd h (by decide)) ?_
              clear hK K
              try simp only [Act.put, List.setIfInBounds_toArray, List.set_cons_zero, List.set_cons_succ, List.getElem_toArray, List.getElem_cons_zero, List.getElem_cons_succ]
              refine wpAnyU_ready (rs := [11]) (by kernel_rfl) (by simp) ?_
              refine AllReadyU.cons rfl (fun K hK => ?_) AllReadyU.nil
              go_simp
              refine hK.out _ _ (fun h => absurd h (by decide)) ?_
              clear hK K
              try simp only [Act.put, List.setIfInBounds_toArray, List.set_cons_zero, List.set_cons_succ, List.getElem_toArray, List.getElem_cons_zero, List.getElem_cons_succ]
              refine wpAnyU_done (by kernel_rfl) ?_ _
              have HB := Lib.hid hU4.out.shut
              clear hU4 f0 f1 f2 f3
              go_wp2_with fail
              go_roundw
              case rel => exact ⟨m + 1, _, _, by omega, by go_num, HB.out⟩
              case measure => simp [intOf]; omega
            exact AllReadyU.nil
          exact AllReadyU.nil
        exact AllReadyU.nil
      exact AllReadyU.nil
    · obtain rfl : m = n := by omega
      have t5 : ¬ (m : Int) < (m : Int) := by omega
      obtain ⟨g1, c1, rfl, _, w1⟩ := row_of_owns hU.r1 (by omega)
      obtain ⟨g2, c2, rfl, _, w2⟩ := row_of_owns hU.r2 (by omega)
      rw [← iv_rep] at w1 w2
      have i1 := row_ints w1
      have i2 := row_ints w2
      have k1 := w1.cap_le
      obtain ⟨f0, f1, f2, f3⟩ := hU.cells
      have HO := Lib.hid hU.oth
      have HI12 := Lib.hid (And.intro i1 (And.intro i2 k1))
      have hbl := lt_of_block hU.box
      clear hU w1 w2 i1 i2 k1 f2 f3
      have hwl : (List.replicate (m + 1) 1).length = m + 1 := by simp
      have hcl : (List.replicate m 1).length = m := by simp
      have hws : wsum (List.replicate (m + 1) 1) m = 2 * m := wsum_unit m m (Nat.le_refl _)
      obtain ⟨A, hA⟩ : ∃ A, A = ucost m (min ws (2 * m)) := ⟨_, rfl⟩
      obtain ⟨a1, a2, a3⟩ := ucost_ok (M := min ws (2 * m)) h1 h2 (by omega)
      have b1 := ucost_all (M := min (ws + m + 3) (2 * m)) h1 h2 (by omega)
      rw [← hA] at a1 a2 a3
      have hAn : (A : Int) ≤ (m : Int) + tri (m - 1) := by omega
      have HL1 : Hid (∀ w', Oth [] wr w' → Calls Tryz.prog 11 #[.agg #[.slice (some ⟨g1, 0, none⟩) (m + 1) c1, .slice (some ⟨g2, 0, none⟩) m c2], .int .i64 ws] w' fun e w2 => e = .returned (.tuple #[.int .i64 A, .int .i64 0]) ∧ Oth [] w' w2) := by
        intro w' ho
        have := least_any (w := w') (g1 := g1) (c1 := c1) (g2 := g2) (c2 := c2) (cap := ws) (M := min ws (2 * m)) (by rw [hcl, hws]) (fine_unit m ws h1 (by omega) (by omega)) (by omega) (by rw [hwl]; exact HI12.out.2.2.1) HI12.out.2.2.2 (HI12.out.1.oth ho (by simp)) (HI12.out.2.1.oth ho (by simp)) (by rw [hcl]; show ucost m _ < nn; omega)
        rw [hwl, hcl] at this
        rw [hA]; exact this
      have HL2 : Hid (∀ w' x, x = (ws : Int) + m + 3 → Oth [] wr w' → Calls Tryz.prog 11 #[.agg #[.slice (some ⟨g1, 0, none⟩) (m + 1) c1, .slice (some ⟨g2, 0, none⟩) m c2], .int .i64 x] w' fun e w2 => e = .returned (.tuple #[.int .i64 m, .int .i64 0]) ∧ Oth [] w' w2) := by
        intro w' x hx ho
        have := least_any (w := w') (g1 := g1) (c1 := c1) (g2 := g2) (c2 := c2) (cap := ws + m + 3) (M := min (ws + m + 3) (2 * m)) (by rw [hcl, hws]) (fine_unit m (ws + m + 3) h1 (by omega) (by omega)) (by omega) (by rw [hwl]; exact HI12.out.2.2.1) HI12.out.2.2.2 (HI12.out.1.oth ho (by simp)) (HI12.out.2.1.oth ho (by simp)) (by rw [hcl]; show ucost m _ < nn; rw [b1]; unfold nn; omega)
        rw [hwl, hcl] at this
        rw [hx, show (ws : Int) + m + 3 = ((ws + m + 3 : Nat) : Int) by omega]
        have e : vl (par0 (min (ws + m + 3) (2 * m)) (List.replicate (m + 1) 1) (List.replicate m 1)) 0 m (min (ws + m + 3) (2 * m)) = m := b1
        rw [e] at this
        exact this
      have HPL : Hid (∀ w', Oth [] wr w' → Calls Tryz.prog 12 #[.agg #[.slice (some ⟨g1, 0, none⟩) (m + 1) c1, .slice (some ⟨g2, 0, none⟩) m c2], .int .i64 ws] w' (PlanPost w' (min ws (2 * m)) (List.replicate (m + 1) 1) (List.replicate m 1))) := by
        intro w' ho
        have := plan_any (w := w') (g1 := g1) (c1 := c1) (g2 := g2) (c2' := c2) (cap := ws) (M := min ws (2 * m)) (by rw [hcl, hws]) (fine_unit m ws h1 (by omega) (by omega)) (by omega) (by rw [hwl]; exact HI12.out.2.2.1) HI12.out.2.2.2 (HI12.out.1.oth ho (by simp)) (HI12.out.2.1.oth ho (by simp)) (by rw [hcl]; show ucost m _ < nn; omega)
        rw [hwl, hcl] at this
        exact this
      have HWK : Hid (∀ w' w2 e, Oth [] wr w' → PlanPost w' (min ws (2 * m)) (List.replicate (m + 1) 1) (List.replicate m 1) e w2 → ∃ g len c pk, e = .returned (.tuple #[.slice (some ⟨g, 0, none⟩) len c, .int .i64 0]) ∧ pk ≤ ws ∧ Oth [] w' w2 ∧ Calls Tryz.prog 13 #[.agg #[.slice (some ⟨g1, 0, none⟩) (m + 1) c1, .slice (some ⟨g2, 0, none⟩) m c2], .int .i64 ws, .slice (some ⟨g, 0, none⟩) len c] w2 fun e w3 => e = .returned (.tuple #[.int .i64 A, .int .i64 pk, .int .i64 0]) ∧ Oth [] w2 w3) := by
        rintro w' w2 e ho ⟨g, c, s', code, rfl, ⟨p, x1, y1, x2, y2, mb, hW⟩, hlen, hrow, ho2, hgn⟩
        rw [hcl] at hlen
        have ho3 := ho.trans ho2 (Fr.nil _ _)
        have hmm := Nat.mul_le_mul h2 h2
        obtain ⟨σ, r1, r2, r3, r4, r5⟩ := plan_runs (cap := ws) (fine_unit m ws h1 (by omega) (by omega)) (by omega) hW (by rw [hcl]; show ucost m _ < nn; omega)
        have hco : σ.cost = A := by rw [r2, hcl, hA]; rfl
        have := walk_any (w := w2) (g1 := g1) (c1 := c1) (g2 := g2) (c2 := c2) (fine_unit m ws h1 (by omega) (by omega)) (by omega) (HI12.out.1.oth ho3 (by simp)) (HI12.out.2.1.oth ho3 (by simp)) hrow (by omega) r1 (by rw [hco]; unfold nn at a1; omega) r4 r5
        rw [hwl, hcl, hco] at this
        exact ⟨g, code.length, c, σ.peak, rfl, by omega, ho2, this⟩
      have htd := tri_div h1
      have hpr := tri_mul h1
      have htb : tri (m - 1) ≤ 72 := by
        have h9 := tri_two (m - 1)
        have h8 : (m - 1) * (m - 1 + 1) ≤ 12 * 12 := Nat.mul_le_mul (by omega) (by omega)
        omega
      have e3 : IntKind.i64.wrap ((m : Int) * ((m : Int) - 1)) = (m : Int) * ((m : Int) - 1) := IntWalk.i64_in _ (by rw [hpr]; omega)
      have e4 : IntKind.i64.wrap ((tri (m - 1) : Nat) : Int) = ((tri (m - 1) : Nat) : Int) := IntWalk.i64_in _ (by omega)
      have e5 : IntKind.i64.wrap ((m : Int) + (tri (m - 1) : Nat)) = (m : Int) + (tri (m - 1) : Nat) := IntWalk.i64_in _ (by omega)
      have e6 : (m : Int) ≤ A := by omega
      clear hpr
      have HB : Hid (Oth [] w wr ∧ wr.cell? ⟨w.heap.size + 1, 0, none⟩ = some (.slice (some ⟨g1, 0, none⟩) (m + 1) c1) ∧ wr.cell? ⟨w.heap.size + 1, 1, none⟩ = some (.slice (some ⟨g2, 0, none⟩) m c2)) := ⟨HO.out, f0, f1⟩
      clear hwl hcl hws hA b1 a1 HI12 HO
      go_wp2_with fail
      refine (HL1.out _ (Oth.refl _ _)).mono ?_
      rintro e w1 ⟨rfl, o1⟩
      have O1 := Lib.hid o1
      clear f0 f1 o1
      have f0 := O1.out.cell HB.out.2.1 (by simp)
      have f1 := O1.out.cell HB.out.2.2 (by simp)
      have e1 : IntKind.i64.wrap ((ws : Int) + m) = (ws : Int) + m := IntWalk.i64_in _ (by omega)
      have e2 : IntKind.i64.wrap ((ws : Int) + m + 3) = (ws : Int) + m + 3 := IntWalk.i64_in _ (by omega)
      go_wp2_with fail
      refine (HL2.out _ _ (by omega) O1.out).mono ?_
      rintro e w2 ⟨rfl, o2⟩
      have O2 := Lib.hid (O1.out.trans o2 (Fr.nil _ _))
      clear f0 f1 o2
      have f0 := O2.out.cell HB.out.2.1 (by simp)
      have f1 := O2.out.cell HB.out.2.2 (by simp)
      go_wp2_with fail
      refine (HPL.out _ O2.out).mono ?_
      intro e w3 hp
      obtain ⟨g, len, c, pk, rfl, hpk, o3, hwk⟩ := HWK.out _ _ _ O2.out hp
      have O3 := Lib.hid (O2.out.trans o3 (Fr.nil _ _))
      have HWK2 := Lib.hid hwk
      clear f0 f1 o3 hp hwk
      have f0 := O3.out.cell HB.out.2.1 (by simp)
      have f1 := O3.out.cell HB.out.2.2 (by simp)
      go_wp2_with fail
      refine HWK2.out.mono ?_
      rintro e w4 ⟨rfl, o4⟩
      have O4 := Lib.hid (O3.out.trans o4 (Fr.nil _ _))
      clear f0 f1 o4
      have e7 : (pk : Int) ≤ ws := by omega
      go_wp2_with ((with_reducible refine (alive_any _).mono ?_); rintro e w5 ⟨rfl, o5⟩)
      go_ret
      exact ⟨rfl, (HB.out.1.trans O4.out (Fr.nil _ _)).trans o5 (Fr.nil _ _)⟩
theorem wholeUnits_walk (a0 a1 : Int) (w0 : (Lit.int .i64 a0).wf = true) (w1 : (Lit.int .i64 a1).wf = true) (w : World) :
    Calls Tryz.prog 4 #[.int .i64 a0, .int .i64 a1] w fun e w' => e = .returned (.bool true) ∧ Below w.heap.size w w' := by
  have h : Calls Tryz.prog 4 #[.int .i64 a0, .int .i64 a1] w fun e w' => e = .returned (.bool true) ∧ Oth [] w w' := by
    by_cases h : a0 < 1 ∨ 12 < a0 ∨ a1 < 3 ∨ 30 < a1
    · exact units_out h
    · obtain ⟨n, rfl⟩ := Int.eq_ofNat_of_zero_le (show 0 ≤ a0 by omega)
      obtain ⟨ws, rfl⟩ := Int.eq_ofNat_of_zero_le (show 0 ≤ a1 by omega)
      exact units_in (by omega) (by omega) (by omega) (by omega)
  refine h.mono ?_
  rintro e w' ⟨rfl, ho⟩
  exact ⟨rfl, ho.below (Nat.le_refl _) (by simp)⟩
end
end Go.Proofs.YtnpdcjdmbkcpbaaGreat.Ins
