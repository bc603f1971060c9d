/- The walk of the law ArenaPlays. Condition: the arguments read as lists. -/
import Derived.Test.YthllilkafdgheaaCk
import Derived.Test.YthllilkafdgheaaCj
namespace Go.Proofs.Ythllilkafdgheaa
open Go.RowKit
set_option linter.unusedVariables false
set_option linter.unusedSimpArgs false

/-- The law's own variable: the reference's state. -/
def KS (sb : Nat) (s : St) (v : Value) (k : Nat) (ob : Obj) : Prop := k = sb ∧ ob = .cells #[.int .i64 s.cap, .int .i64 s.next, .int .i64 s.high, .int .i64 s.peak, .int .i64 s.moves, v] 55 (0, 0)
theorem Both.ks {w : World} {p sb : Nat} {s : St} {v : Value} {W : World} (h : Both (KS sb s v) w p s v W) : SC sb s.cap s.next s.high s.peak s.moves v W := (h.kp sb _ ⟨rfl, rfl⟩).2
theorem Both.store {w : World} {p sb : Nat} {s0 s : St} {v0 v : Value} {W W' : World} (h : Both (KS sb s0 v0) w p s v W) (hsb : w.heap.size ≤ sb) (ho : Oth [sb] W W') (hn : SC sb s.cap s.next s.high s.peak s.moves v W') : Both (KS sb s v) w p s v W' := by
  have hb := (h.kp sb _ ⟨rfl, rfl⟩).1
  have h1 := h.fr.other ho (fun k hk => by simp at hk; subst hk; exact ⟨hsb, fun _ => hb⟩)
  obtain ⟨B, R, h2, h3, h4⟩ := h.rf
  refine ⟨h1.1, ?_, B, R, h2.oth ho (fun k hk => ?_), h3, fun b hbB => ⟨h1.2.1 b (h4 b hbB).1, ?_⟩⟩
  · rintro k ob ⟨rfl, rfl⟩
    exact ⟨h1.2.1 _ hb, hn⟩
  · simp
    rintro rfl
    exact (h4 _ hk).2 _ ⟨rfl, rfl⟩
  · rintro ob ⟨rfl, rfl⟩
    exact (h4 _ hbB).2 _ ⟨rfl, rfl⟩
theorem Both.begin {w : World} {p cp sb : Nat} {W W' : World} (h : Fresh w p (st0 cp) W) (hW : W' = W.alloc (.cells #[.int .i64 cp, .int .i64 0, .int .i64 0, .int .i64 0, .int .i64 0, .slice none 0 0] 55)) (hs : sb = W.heap.size) : Both (KS sb (st0 cp) (.slice none 0 0)) w p (st0 cp) (.slice none 0 0) W' := by
  have ho : Oth [] W W' := by rw [hW]; exact (Oth.refl _ _).alloc _
  have hn : W'.heap[sb]? = some (.cells #[.int .i64 cp, .int .i64 0, .int .i64 0, .int .i64 0, .int .i64 0, .slice none 0 0] 55 (0, 0)) := by rw [hW, hs]; exact heap_alloc_new _ _
  refine ⟨h.quiet ho, ?_, [], [], ⟨⟨none, 0, rfl, ⟨Nat.le_refl _, Nat.zero_le _⟩, fun j u hu => by simp [rcs] at hu⟩, fun x hx => by cases hx⟩, ?_, fun b hb => by cases hb⟩
  · rintro k ob ⟨rfl, rfl⟩
    exact ⟨h.bes ho (by omega) (lt_of_block hn), hn⟩
  · exact List.Perm.refl _

set_option maxHeartbeats 8000000 in
set_option maxRecDepth 100000 in
theorem arenaPlays_any (cap : Int) (base : Option Addr) (n c : Nat) (l : List OpV) (w : World) (hR : ReadsO base n l w) :
    Calls Try.prog 7 #[.int .i64 cap, .slice base n c] w fun e w' => e = .returned (.bool true) ∧ Oth [] w w' := by
  have HR := Lib.hid hR
  clear hR
  go_enter Try.func7, Try.ntmps7
  go_wp2_with fail
  refine (small_any cap base n c l w HR.out).mono ?_
  rintro e w1 ⟨⟨sb, rfl, hsm⟩, ho1⟩
  have HSM := Lib.hid hsm
  clear hsm
  cases sb with
  | false =>
    go_wp2_with fail
    refine (awake_any _).mono ?_
    rintro e w' ⟨rfl, ho⟩
    go_wp2_with fail
    go_ret
    exact ⟨rfl, ho1.trans ho (Fr.nil _ _)⟩
  | true =>
    obtain ⟨hc0, hc3, hl1, hom⟩ := HSM.out rfl
    obtain ⟨cp, rfl⟩ : ∃ q : Nat, cap = q := ⟨cap.toNat, by omega⟩
    have HOM := Lib.hid hom
    have hn100 : n ≤ 100 := by have := HR.out.1; omega
    clear hom hl1 HSM
    go_wp2_with fail
    refine (Fresh.new w1 cp (by omega)).mono ?_
    rintro e w2 ⟨p, rfl, hf⟩
    have H2 := Lib.hid hf
    have HO1 := Lib.hid ho1
    clear hf ho1
    go_wp2_with fail
    obtain ⟨W2, hW2⟩ : ∃ W2, W2 = w2.alloc (.cells #[.int .i64 cp, .int .i64 0, .int .i64 0, .int .i64 0, .int .i64 0, .slice none 0 0] 55) := ⟨_, rfl⟩
    obtain ⟨sb, hsb⟩ : ∃ sb, sb = w2.heap.size := ⟨_, rfl⟩
    have HB2 := Lib.hid (Both.begin H2.out hW2 hsb)
    have hold : w1.heap.size ≤ sb := by rw [hsb]; exact H2.out.oth.size
    rw [← hW2, ← hsb]
    clear hW2 hsb
    go_loopw [31] (fun x wr => ∃ i : Nat, i ≤ n ∧ x = .int .i64 i ∧ Hid (∃ s b m c, Both (KS sb s (.slice b m c)) w1 p s (.slice b m c) wr ∧ s.next ≤ i ∧ s.cap = cp)) (fun x _ => (n - intOf x).toNat)
    case atStart => exact ⟨0, by omega, rfl, ⟨_, none, 0, 0, HB2.out, Nat.le_refl _, rfl⟩⟩
    case round =>
      obtain ⟨i, hin, rfl, hs⟩ := hrel
      by_cases hlt : i < n
      · have u1 : (i : Int) < (n : Int) := by omega
        obtain ⟨s, sv, sm, scp, hb, hnx, hsc⟩ := hs.out
        obtain ⟨o, hav⟩ : ∃ p, l[i]? = some p := ⟨_, List.getElem?_eq_getElem (by have := HR.out.1; omega)⟩
        obtain ⟨⟨g, off, rfl, c1, c2, c3⟩, hwf, _⟩ := ((HR.out.oth HO1.out).oth hb.fr.oth).2.2 i _ hav
        obtain ⟨_, _, hrd⟩ := (HR.out.oth HO1.out).2.2 i _ hav
        have hgl : g < wr.heap.size := World.block_lt_of_cell? wr _ c1
        have hom := HOM.out i o hav
        have ho3 : Oth [] wr (wr.alloc (opc o)) := (Oth.refl _ _).alloc _
        have hb3 := hb.quiet ho3
        have HST := Lib.hid (step_any w1 p s (.slice sv sm scp) o _ hb3 (by omega) (by omega) hwf hom hrd)
        unfold sval opc at HST
        obtain ⟨ok, hok⟩ : ∃ a, a = o.k := ⟨_, rfl⟩
        obtain ⟨on, hon⟩ : ∃ a, a = o.n := ⟨_, rfl⟩
        obtain ⟨ob, hob⟩ : ∃ a, a = o.b := ⟨_, rfl⟩
        obtain ⟨om, hom⟩ : ∃ a, a = o.m := ⟨_, rfl⟩
        obtain ⟨oc, hoc⟩ : ∃ a, a = o.c := ⟨_, rfl⟩
        rw [← hok, ← hon, ← hob, ← hom, ← hoc] at HST
        rw [← hok] at c1
        rw [← hon] at c2
        rw [← hob, ← hom, ← hoc] at c3
        obtain ⟨a0, a1, a2, a3, a4, a5⟩ := hb.ks.c
        have l0 := lt_of_block hb.ks
        have HNX := Lib.hid hnx
        have HSC := Lib.hid hsc
        clear hb hnx hsc hav hwf hrd hok hon hob hom hoc hb3 ho3 hs
        go_wp2_with fail
        refine HST.out.mono ?_
        rintro e w4 ⟨s4, v4, rfl, hb4, hn4, hc4⟩
        have hv4 : ∃ b m c, v4 = .slice b m c := by
          obtain ⟨B, R, h1, _⟩ := hb4.rf
          obtain ⟨b, c, he⟩ := h1.slice
          exact ⟨b, _, c, he⟩
        obtain ⟨b4, m4, c4, rfl⟩ := hv4
        obtain ⟨⟨a0', a1', a2', a3', a4', a5'⟩, fz⟩ := And.intro (hb4.kp sb _ ⟨rfl, rfl⟩ |>.2 |> fun h => SC.c h) (fun i => SC.f (hb4.kp sb _ ⟨rfl, rfl⟩).2 i)
        have HB4 := Lib.hid hb4
        have HN4 := Lib.hid hn4
        have HC4 := Lib.hid hc4
        unfold sval
        clear hb4 hn4 hc4 HST c1 c2 c3 a0 a1 a2 a3 a4 a5 l0
        go_wp2_with fail
        have hb5 : Both (KS sb s4 (.slice b4 m4 c4)) w1 p s4 (.slice b4 m4 c4) (six w4 sb (.int .i64 s4.cap) (.int .i64 s4.next) (.int .i64 s4.high) (.int .i64 s4.peak) (.int .i64 s4.moves) (.slice b4 m4 c4)) :=
          HB4.out.store hold (six_oth (Oth.refl _ _) (.inl (by simp))) (six_heap (HB4.out.kp sb _ ⟨rfl, rfl⟩).2)
        have HB5 := Lib.hid hb5
        have HAL := Lib.hid (alike_any _ w1 p s4 (.slice b4 m4 c4) _ hb5)
        unfold sval at HAL
        clear hb5 HB4 a0' a1' a2' a3' a4' a5' fz
        refine HAL.out.mono ?_
        rintro e w6 ⟨rfl, ho6⟩
        have HB6 : Hid (∃ s b m c, Both (KS sb s (.slice b m c)) w1 p s (.slice b m c) w6 ∧ s.next ≤ i + 1 ∧ s.cap = cp) := ⟨s4, b4, m4, c4, HB5.out.quiet ho6, by have := HN4.out; have := HNX.out; omega, HC4.out.trans HSC.out⟩
        clear HAL HB5 ho6
        go_wp2_with fail
        go_roundw
        case rel => exact ⟨i + 1, by omega, by go_num, HB6⟩
        case measure => simp [intOf]; omega
      · obtain rfl : i = n := by omega
        have u1 : ¬ (i : Int) < (i : Int) := by omega
        obtain ⟨s, b, m, c, hb, _⟩ := hs.out
        have HOW := Lib.hid (HO1.out.trans hb.fr.oth (Fr.nil _ _))
        clear hb hs
        go_wp2_with fail
        refine (awake_any _).mono ?_
        rintro e w' ⟨rfl, ho⟩
        have HOF := Lib.hid (HOW.out.trans ho (Fr.nil _ _))
        clear ho
        go_wp2_with fail
        go_ret
        exact ⟨rfl, HOF.out⟩

theorem arenaPlays_walk (cap : Int) (base : Option Addr) (n c : Nat) (l : List OpV) (w0 : (Lit.int .i64 cap).wf = true) {w : World} (hR : ReadsO base n l w) (W : World) (hW : W = w := by rfl) :
    Calls Try.prog 7 #[.int .i64 cap, .slice base n c] W fun e w' => e = .returned (.bool true) ∧ Below W.heap.size W w' := by
  subst hW
  refine (arenaPlays_any cap base n c l W hR).mono ?_
  rintro e w' ⟨rfl, ho⟩
  exact ⟨rfl, ho.below (Nat.le_refl _) (by simp)⟩
end Go.Proofs.Ythllilkafdgheaa
