/- The walk of the law ArenaFirst. Condition: the argument reads as a list of ints. -/
import Derived.Test.YthllilkafdgheaaBb
import Derived.Test.YthllilkafdgheaaAya
import Derived.Laws.MakeOwn
namespace Go.Proofs.Ythllilkafdgheaa
open Go.RowKit
set_option linter.unusedVariables false
set_option linter.unusedSimpArgs false

theorem Try.info3 : (Try.prog.info? 3).map (fun i => (i.zero, i.size, i.bytes)) = some (some (.int .i64 0), 1, 8) := by kernel_rfl
/-- The handles 1, 2, .. as cells. -/
def hcs (m : Nat) : List Value := (List.range m).map (fun j : Nat => .int .i64 ((j : Int) + 1))

theorem giveAny {w : World} {p : Nat} {s : St} {w1 : World} (h : Fresh w p s w1) (hp : Pck s) (words : Int) (hnx : s.next < 1000) :
    Calls Try.prog 11 #[.pointer (some ⟨p, 0, none⟩), .int .i64 words] w1 fun e w' =>
      (e = .returned (.tuple #[.int .i64 ((s.next : Int) + 1), .int .i64 0]) ∧ ∃ s', (Pck s' ∧ s'.cap = s.cap) ∧ s'.next = s.next + 1 ∧ Fresh w p s' w' ∧ Mv p s w1 s' w') ∨
      (∃ er, er ≠ 0 ∧ e = .returned (.tuple #[.int .i64 0, .int .i64 er]) ∧ Fresh w p s w' ∧ Mv p s w1 s w') := by
  by_cases hw : words < 1 ∨ 65536 < words
  · refine (h.rangeM words hw).mono ?_
    rintro e w' ⟨rfl, hf, ho⟩
    exact .inr ⟨11, by decide, rfl, hf, h.mv ho⟩
  · obtain ⟨m, rfl⟩ : ∃ m : Nat, words = m := ⟨words.toNat, by omega⟩
    by_cases hq : s.cap < s.live + m
    · refine (h.fullM m (by omega) (by omega) hq).mono ?_
      rintro e w' ⟨rfl, hf, ho⟩
      exact .inr ⟨15, by decide, rfl, hf, h.mv ho⟩
    · refine (h.giveM m hnx (by omega) (by omega) (by omega)).mono ?_
      rintro e w' ⟨rfl, s', hgv, hf, hmv⟩
      obtain ⟨k1, k2, k3⟩ := hp.given h.good hgv (by omega) (by omega)
      exact .inl ⟨rfl, s', ⟨k1, k3⟩, k2, hf, hmv⟩

/-- The arena and the handles beside it. -/
def Held (w : World) (p m : Nat) (v : Value) (w1 : World) : Prop := ∃ s, Fresh w p s w1 ∧ (Pck s ∧ s.cap ≤ 300) ∧ s.next = m ∧ w1.ownsRow w.heap.size 3 1 v m (hcs m) ∧ ∀ k, v.ownBlock = some k → Bes p s w1 k

theorem hcs_get {m q : Nat} (h : q < m) : (hcs m)[q]? = some (.int .i64 ((q : Int) + 1)) := by
  unfold hcs
  rw [List.getElem?_map, List.getElem?_range h]; rfl
theorem hcs_succ (m : Nat) : hcs (m + 1) = hcs m ++ [.int .i64 ((m : Int) + 1)] := by simp [hcs, List.range_succ]

set_option maxHeartbeats 8000000 in
set_option maxRecDepth 100000 in
theorem arenaFirst_big (cap : Int) (base : Option Addr) (n c : Nat) (k : Int) (h : cap < 0 ∨ 300 < cap ∨ 50 < n) (w : World) :
    Calls Try.prog 4 #[.int .i64 cap, .slice base n c, .int .i64 k] w fun e w' => e = .returned (.bool true) ∧ Oth [] w w' := by
  by_cases h1 : cap < 0
  · clear h
    go_enter Try.func4, Try.ntmps4
    go_wp2_with fail
    refine (awake_any _).mono ?_
    rintro e w' ⟨rfl, ho⟩
    go_wp2_with fail
    go_ret
    exact ⟨rfl, ho⟩
  · by_cases h2 : 300 < cap
    · clear h
      go_enter Try.func4, Try.ntmps4
      go_wp2_with fail
      refine (awake_any _).mono ?_
      rintro e w' ⟨rfl, ho⟩
      go_wp2_with fail
      go_ret
      exact ⟨rfl, ho⟩
    · have h3 : 50 < (n : Int) := by omega
      clear h
      go_enter Try.func4, Try.ntmps4
      go_wp2_with fail
      refine (awake_any _).mono ?_
      rintro e w' ⟨rfl, ho⟩
      go_wp2_with fail
      go_ret
      exact ⟨rfl, ho⟩
set_option maxHeartbeats 8000000 in
set_option maxRecDepth 100000 in
theorem arenaFirst_small (cap : Nat) (base : Option Addr) (n c : Nat) (l : List Int) (k : Int) (w : World) (hR : ReadsI base n l w) (hcap : cap ≤ 300) (hn : n ≤ 50) :
    Calls Try.prog 4 #[.int .i64 cap, .slice base n c, .int .i64 k] w fun e w' => e = .returned (.bool true) ∧ Oth [] w w' := by
  obtain ⟨i0, hi, hz0, hz1, hz2⟩ := info_parts Try.info3
  have HR := Lib.hid hR
  have t1 : ¬ (cap : Int) < 0 := by omega
  have t2 : ¬ (300 : Int) < (cap : Int) := by omega
  have t3 : ¬ (50 : Int) < (n : Int) := by omega
  clear hR
  go_enter Try.func4, Try.ntmps4
  go_wp2_with fail
  refine (Fresh.new w cap (by omega)).mono ?_
  rintro e w1 ⟨p, rfl, hf⟩
  have H1 := Lib.hid hf
  clear hf
  go_wp2_with fail
  go_loopw [9, 45] (fun v x wr => ∃ i m : Nat, i ≤ n ∧ x = .int .i64 i ∧ m ≤ i ∧ Hid (Held w p m v wr)) (fun _ x _ => (n - intOf x).toNat)
  case atStart => exact ⟨0, 0, by omega, rfl, by omega, ⟨_, H1.out, ⟨pck0 _, hcap⟩, rfl, ⟨rfl, .inl ⟨rfl, rfl⟩⟩, fun k hk => by simp [Value.ownBlock] at hk⟩⟩
  case round =>
    obtain ⟨i, m, hin, rfl, hmi, hs⟩ := hrel
    by_cases hlt : i < n
    · have u1 : (i : Int) < (n : Int) := by omega
      obtain ⟨s, hf, hpk, hnx, hown, hbes⟩ := hs.out
      obtain ⟨q, hq⟩ : ∃ q, l[i]? = some q := ⟨_, List.getElem?_eq_getElem (by have := HR.out.1; omega)⟩
      obtain ⟨g, off, rfl, hcell⟩ := HR.out.2.2.2 i q hq
      have hcell2 := hf.oth.cell hcell (by simp)
      have HG := Lib.hid (giveAny hf hpk.1 q (by omega))
      rw [hnx] at HG
      have HF := Lib.hid hf
      have HOW := Lib.hid hown
      have HBE := Lib.hid hbes
      have HPK := Lib.hid hpk
      have HNX := Lib.hid hnx
      clear hcell hf hq hnx hpk hown hbes
      go_wp2_with fail
      refine HG.out.mono ?_
      rintro e w2 (⟨rfl, s', hp', hn', hf', hmv⟩ | ⟨er, hne, rfl, hf', hmv⟩)
      · have hown2 := hmv.owns HOW.out HBE.out
        have hbe2 : ∀ k, Value.ownBlock u9 = some k → Bes p s' w2 k := fun k hk => (hmv.bes (HBE.out k hk)).1
        have hoa : Oth [] w2 (w2.alloc (.cells #[.int .i64 ((m : Int) + 1)] 3)) := (Oth.refl _ _).alloc _
        have hfa := hf'.quiet hoa
        have hsz := hf'.oth.size
        have HFA := Lib.hid hfa
        have HBA : Hid (∀ k, Value.ownBlock u9 = some k → w.heap.size ≤ k ∧ Bes p s' (w2.alloc (.cells #[.int .i64 ((m : Int) + 1)] 3)) k) := fun k hk => ⟨(hown2.lt k hk).1, (hbe2 k hk).oth hf' hoa⟩
        have HP' := Lib.hid hp'
        have HN' := Lib.hid hn'
        clear hp' hn' hf' hmv hoa hfa hbe2
        go_wp2_with (at_builtin; refine wpList_append_own_at _ rfl _ _ 43 rfl w.heap.size 3 i0 _ 1 8 Try.underlying43 hi hz0 hz1 hz2 rfl (by decide) _ _ _ rfl (hown2.alloc _) ⟨w2.heap.size, 0, none⟩ 1 1 [.int .i64 ((m : Int) + 1)] rfl rfl ?c1 ?c2 ?c3 ?c4 ?c5 ?_)
        case c1 =>
          intro j u hu
          match j with
          | 0 => simp at hu; subst hu; rw [Addr.add_lit]; exact (World.cell?_alloc_at _ _ w2.heap.size 0 rfl)
          | j + 1 => simp at hu
        case c2 => intro u hu; simp at hu; subst hu; rfl
        case c3 => unfold maxLen; omega
        case c4 => omega
        case c5 => simp; omega
        intro v' w3 hown3 hgrow3 _ hat
        have hf3 := HFA.out.grown hgrow3 HBA.out
        have HH : Hid (Held w p (m + 1) v' w3) := by
          refine ⟨s', hf3.1, ⟨HP'.out.1, by rw [HP'.out.2]; exact HPK.out.2⟩, HN'.out, by rw [hcs_succ]; exact hown3, fun k hk => ?_⟩
          rcases hat with h | h
          · exact hf3.2.1 k (HBA.out k (by rw [← h]; exact hk)).2
          · have hlt := (hown3.lt k hk).2
            rw [hk] at h; cases h
            exact hf3.2.2 _ (by simp) hlt
        clear hown3 hgrow3 hat hf3
        go_wp2_with fail
        go_roundw
        case rel => exact ⟨i + 1, m + 1, by omega, by go_num, by omega, HH⟩
        case measure => simp [intOf]; omega
      · have HH : Hid (Held w p m u9 w2) := ⟨s, hf', HPK.out, HNX.out, hmv.owns HOW.out HBE.out, fun k hk => (hmv.bes (HBE.out k hk)).1⟩
        clear hf' hmv
        go_wp2_with fail
        go_roundw
        case rel => exact ⟨i + 1, m, by omega, by go_num, by omega, HH⟩
        case measure => simp [intOf]; omega
    · obtain rfl : i = n := by omega
      have u1 : ¬ (i : Int) < (i : Int) := by omega
      obtain ⟨s, hf, ⟨hpk, hsc⟩, hnx, hown, hbes⟩ := hs.out
      obtain ⟨b, cv, rfl, hcs1⟩ := owns_slice hown
      have HF := Lib.hid hf
      have HSC := Lib.hid hsc
      clear hsc
      by_cases hk0 : k < 0
      · clear hf hown hbes hcs1 hpk hnx
        go_wp2_with fail
        refine (awake_any _).mono ?_
        rintro e w' ⟨rfl, ho⟩
        go_wp2_with fail
        go_ret
        exact ⟨rfl, HF.out.oth.trans ho (Fr.nil _ _)⟩
      · obtain ⟨q, rfl⟩ : ∃ q : Nat, k = q := ⟨k.toNat, by omega⟩
        by_cases hqm : m ≤ q
        · have u2 : (m : Int) ≤ (q : Int) := by omega
          clear hf hown hbes hcs1 hpk hnx
          go_wp2_with fail
          refine (awake_any _).mono ?_
          rintro e w' ⟨rfl, ho⟩
          go_wp2_with fail
          go_ret
          exact ⟨rfl, HF.out.oth.trans ho (Fr.nil _ _)⟩
        · have u2 : ¬ (m : Int) ≤ (q : Int) := by omega
          have u3 : (q : Int) < (m : Int) := by omega
          obtain ⟨x, hx⟩ : ∃ x, s.L[q]? = some x := ⟨_, List.getElem?_eq_getElem (by have := hpk.cnt; omega)⟩
          obtain ⟨g, rfl, hcell⟩ := hcs1 q (.int .i64 ((q : Int) + 1)) (hcs_get (by omega))
          have hbg : Bes p s wr g := hbes g rfl
          have hxh := (hpk.hnd q x hx).1
          have HFI := Lib.hid (HF.out.findM hx)
          rw [hxh] at HFI
          have HXH := Lib.hid hxh
          have HX := Lib.hid hx
          have HBG := Lib.hid hbg
          have HPK := Lib.hid hpk
          obtain ⟨xf, hxf⟩ : ∃ a, a = x.f := ⟨_, rfl⟩
          obtain ⟨xn, hxn⟩ : ∃ a, a = x.n := ⟨_, rfl⟩
          rw [← hxf, ← hxn] at HFI
          have HXF := Lib.hid hxf
          have HXN := Lib.hid hxn
          have HNX := Lib.hid hnx
          clear hf hown hbes hcs1 hpk hnx hxh hx hbg hxf hxn
          go_wp2_with fail
          refine HFI.out.mono ?_
          rintro e w2 ⟨rfl, hf2, ho2⟩
          have hoa : Oth [] wr (w2.alloc (.cells #[.int .i64 ((q : Int) + 1), .int .i64 xf, .int .i64 xn] 45)) := ho2.alloc _
          obtain ⟨W2, hW2⟩ : ∃ W2, W2 = w2.alloc (.cells #[.int .i64 ((q : Int) + 1), .int .i64 xf, .int .i64 xn] 45) := ⟨_, rfl⟩
          have hbh : W2.heap[w2.heap.size]? = some (.cells #[.int .i64 ((q : Int) + 1), .int .i64 xf, .int .i64 xn] 45 (0, 0)) := by rw [hW2]; exact heap_alloc_new _ _
          rw [← hW2] at hoa
          obtain ⟨kb, hkb⟩ : ∃ kb, kb = w2.heap.size := ⟨_, rfl⟩
          rw [← hkb] at hbh
          have hfW := HF.out.quiet hoa
          have hbk : Bes p s W2 kb := hf2.bes (w2 := W2) (by rw [hW2]; exact (Oth.refl _ _).alloc _) (by omega) (lt_of_block hbh)
          have hgW := HBG.out.oth HF.out hoa
          have hcW := ho2.cell hcell (by simp)
          have hgl : g < w2.heap.size := World.block_lt_of_cell? w2 _ hcW
          have HFR := Lib.hid (hfW.freeM HX.out)
          rw [HXH.out] at HFR
          have HBH := Lib.hid hbh
          have HBK := Lib.hid hbk
          clear hoa ho2 hf2 hfW hgW hbh hbk HFI hcell
          go_wp2_with fail
          rw [← hW2, ← hkb]
          clear hW2 hkb hcW hgl
          refine HFR.out.mono ?_
          rintro e w3 ⟨rfl, hf3, hmv3⟩
          have hbk3 := (hmv3.bes HBK.out).1
          have hb3 : w3.heap[kb]? = some (.cells #[.int .i64 ((q : Int) + 1), .int .i64 xf, .int .i64 xn] 45 (0, 0)) := by rw [(hmv3.bes HBK.out).2]; exact HBH.out
          have c3 : w3.cell? ⟨kb, 2, none⟩ = some (.int .i64 xn) := by simp only [World.cell?, hb3]; rfl
          have hgd := HF.out.good
          have hxb := hgd.blk x (List.mem_of_getElem? HX.out)
          have hx65 : x.n ≤ 65536 := by have := hgd.high; have := HSC.out; omega
          have HGV : Hid (Calls Try.prog 11 #[.pointer (some ⟨p, 0, none⟩), .int .i64 xn] w3 fun e w' => e = .returned (.tuple #[.int .i64 ((m : Int) + 1), .int .i64 0]) ∧ ∃ s' y, Given (freed s q x) x.n s' ∧ s'.moves = 0 ∧ s'.L[q]? = some y ∧ y.h = m + 1 ∧ y.f = xf ∧ y.n = xn ∧ Fresh w p s' w' ∧ Mv p (freed s q x) w3 s' w') := by
            have hh := hgd.high
            have hp := hgd.peak
            have hfl : (freed s q x).live = s.live - x.n := rfl
            have hfc : (freed s q x).cap = s.cap := rfl
            have hfn : (freed s q x).next = m := HNX.out
            have h4 := hf3.giveM x.n (by rw [hfn]; omega) hxb.1 hx65 (by rw [hfl, hfc]; omega)
            rw [← HXN.out, hfn] at h4
            refine h4.mono ?_
            rintro e w' ⟨rfl, s', hgv, hf', hmv'⟩
            rw [HXN.out] at hgv
            obtain ⟨a1, y, a2, a3, a4, a5⟩ := again HPK.out hgd HX.out hgv
            exact ⟨rfl, s', y, hgv, a1, a2, by rw [a3, HNX.out], by rw [a4, HXF.out], by rw [a5, HXN.out], hf', hmv'⟩
          have HB3 := Lib.hid hb3
          have HBK3 := Lib.hid hbk3
          clear hgd hxb hx65 hmv3 hf3 hb3 hbk3
          go_wp2_with fail
          refine HGV.out.mono ?_
          rintro e w4 ⟨rfl, s', y, hgv, hmo, hy, hyh, hyf, hyn, hf4, hmv4⟩
          have hb4 : w4.heap[kb]? = some (.cells #[.int .i64 ((q : Int) + 1), .int .i64 xf, .int .i64 xn] 45 (0, 0)) := by rw [(hmv4.bes HBK3.out).2]; exact HB3.out
          have HFI := Lib.hid (hf4.findM hy)
          rw [hyh, hyf, hyn] at HFI
          have HB4 := Lib.hid hb4
          have HM := Lib.hid hmo
          clear hgv hmo hy hyh hyf hyn hf4 hmv4 hb4 c3
          go_wp2_with fail
          refine HFI.out.mono ?_
          rintro e w5 ⟨rfl, hf5, ho5⟩
          have hb5 := ho5.heap HB4.out (by simp)
          have d1 : w5.cell? ⟨kb, 1, none⟩ = some (.int .i64 xf) := by simp only [World.cell?, hb5]; rfl
          have d2 : w5.cell? ⟨kb, 2, none⟩ = some (.int .i64 xn) := by simp only [World.cell?, hb5]; rfl
          have hkl := lt_of_block hb5
          have HMV : ∀ W, Oth [] w5 W → Hid (Calls Try.prog 19 #[.pointer (some ⟨p, 0, none⟩)] W fun e w' => e = .returned (.int .i64 0) ∧ W = w') := fun W hW => by
            have := (hf5.quiet hW).moves
            rw [HM.out] at this; exact this
          have HF5 := Lib.hid hf5
          clear hb5 ho5 hf5 HFI
          go_wp2_with fail
          refine (HMV _ ((Oth.refl _ _).alloc _)).out.mono ?_
          rintro e w6 ⟨rfl, rfl⟩
          go_wp2_with fail
          refine (awake_any _).mono ?_
          rintro e w' ⟨rfl, ho⟩
          go_wp2_with fail
          go_ret
          exact ⟨rfl, (HF5.out.oth.alloc _).trans ho (Fr.nil _ _)⟩

theorem arenaFirst_walk (cap : Int) (base : Option Addr) (n c : Nat) (l : List Int) (k : Int) (w0 : (Lit.int .i64 cap).wf = true) {w : World} (hR : ReadsI base n l w) (w2 : (Lit.int .i64 k).wf = true) (W : World) (hW : W = w := by rfl) :
    Calls Try.prog 4 #[.int .i64 cap, .slice base n c, .int .i64 k] W fun e w' => e = .returned (.bool true) ∧ Below W.heap.size W w' := by
  subst hW
  suffices h : Calls Try.prog 4 #[.int .i64 cap, .slice base n c, .int .i64 k] W fun e w' => e = .returned (.bool true) ∧ Oth [] W w' by
    refine h.mono ?_
    rintro e w' ⟨rfl, ho⟩
    exact ⟨rfl, ho.below (Nat.le_refl _) (by simp)⟩
  by_cases h : cap < 0 ∨ 300 < cap ∨ 50 < n
  · exact arenaFirst_big cap base n c k h W
  · obtain ⟨q, rfl⟩ : ∃ q : Nat, cap = q := ⟨cap.toNat, by omega⟩
    exact arenaFirst_small q base n c l k W hR (by omega) (by omega)
end Go.Proofs.Ythllilkafdgheaa
