/- The walks of Len and of awake, which returns true. No condition. -/
import Derived.Test.YtbjfojdhdjehpaaTfis
import Derived.Test.YtbjfojdhdjehpaaTgsi
namespace Go.Proofs.Ytbjfojdhdjehpaa
open Go.RowKit
set_option linter.unusedVariables false
set_option linter.unusedSimpArgs false

/-- A table of blocks that are new since w. -/
def NewTab_is (w : World) (p : Nat) (L : List (Int × ByteArray)) (w' : World) : Prop := ∃ S, Tab_is p S L w' ∧ Oth [] w w' ∧ ∀ k, k ∈ S → w.heap.size ≤ k

theorem NewTab_is.made (w : World) : NewTab_is w w.heap.size [] (w.alloc (.cells #[.slice none 0 0, .int .i64 0] 35)) :=
  ⟨[w.heap.size], .inl ⟨rfl, rfl, none, 0, heap_alloc_new _ _⟩, (Oth.refl _ _).alloc _, by simp⟩
theorem NewTab_is.oth {w : World} {p : Nat} {L : List (Int × ByteArray)} {w1 w2 : World} (h : NewTab_is w p L w1) (ho : Oth [] w1 w2) : NewTab_is w p L w2 := by
  obtain ⟨S, h1, h2, h3⟩ := h
  exact ⟨S, h1.oth ho (by simp), h2.trans ho (Fr.nil _ _), h3⟩
theorem NewTab_is.out {w : World} {p : Nat} {L : List (Int × ByteArray)} {w1 : World} (h : NewTab_is w p L w1) : Oth [] w w1 := by
  obtain ⟨S, h1, h2, h3⟩ := h; exact h2

theorem Set_nt {w0 : World} {p : Nat} {L : List (Int × ByteArray)} {w : World} (h : NewTab_is w0 p L w) (k : Int) (v : ByteArray) (hs : Srt L) (h1 : L.length < 256) :
    Calls Try.prog 12 #[.pointer (some ⟨p, 0, none⟩), .int .i64 k, .string v] w fun e w' => e = .returned (.bool (!hasK k L)) ∧ NewTab_is w0 p (putK k v L) w' := by
  obtain ⟨S, ht, ho, hS⟩ := h
  refine (Set_any_is p S L k v w ht (fun _ _ => trivial) trivial hs h1).mono ?_
  rintro e w2 ⟨rfl, ⟨S', h1, h2⟩, h3⟩
  refine ⟨rfl, S', h1, ho.trans h3 (fun k hk => .inr (hS k hk)), fun k hk => ?_⟩
  rcases h2 k hk with h | h
  · exact hS k h
  · have := ho.size; omega
theorem Get_nt {w0 : World} {p : Nat} {L : List (Int × ByteArray)} {w : World} (h : NewTab_is w0 p L w) (k : Int) (hs : Srt L) (h1 : L.length ≤ 1000) :
    Calls Try.prog 21 #[.pointer (some ⟨p, 0, none⟩), .int .i64 k] w fun e w' => e = .returned (.tuple #[.string (getK ⟨#[]⟩ k L), .bool (hasK k L)]) ∧ NewTab_is w0 p L w' := by
  have h' := h
  obtain ⟨S, ht, ho, hS⟩ := h
  refine (Get_any_is p S L k w ht (fun _ _ => trivial) trivial hs h1).mono ?_
  rintro e w2 ⟨rfl, h3⟩
  exact ⟨rfl, h'.oth h3⟩
theorem Keys_nt {w0 : World} {p : Nat} {L : List (Int × ByteArray)} {w : World} (h : NewTab_is w0 p L w) (h1 : L.length ≤ 1000) :
    Calls Try.prog 22 #[.pointer (some ⟨p, 0, none⟩)] w fun e w' => ∃ v, e = .returned v ∧ w'.ownsRow w.heap.size 3 1 v L.length (keyCells_is L) ∧ Oth [] w w' ∧ NewTab_is w0 p L w' := by
  have h' := h
  obtain ⟨S, ht, ho, hS⟩ := h
  refine (Keys_any_is p S L w ht h1).mono ?_
  rintro e w2 ⟨v, rfl, h2, h3⟩
  exact ⟨v, rfl, h2, h3, h'.oth h3⟩
theorem Len_any (p : Nat) (S : List Nat) (L : List (Int × ByteArray)) (w : World) (h : Tab_is p S L w) :
    Calls Try.prog 16 #[.pointer (some ⟨p, 0, none⟩)] w fun e w' => e = .returned (.int .i64 L.length) ∧ w = w' := by
  have hc : w.cell? ⟨p, 1, none⟩ = some (.int .i64 L.length) := by
    rcases h with ⟨rfl, rfl, b, c, hp⟩ | ⟨h0, gp, c, g, cap, rfl, n1, n2, n3, hp, hc, hgp, hr⟩ <;> simp [World.cell?, hp]
  clear h
  go_enter Try.func16, Try.ntmps16
  go_wp2
  go_ret
  exact ⟨rfl, rfl⟩
theorem Len_nt {w0 : World} {p : Nat} {L : List (Int × ByteArray)} {w : World} (h : NewTab_is w0 p L w) :
    Calls Try.prog 16 #[.pointer (some ⟨p, 0, none⟩)] w fun e w' => e = .returned (.int .i64 L.length) ∧ w = w' := by
  obtain ⟨S, ht, ho, hS⟩ := h
  exact Len_any p S L w ht

abbrev L1 : List (Int × ByteArray) := [(3, ⟨#[120]⟩)]
abbrev L2 : List (Int × ByteArray) := [(1, ⟨#[121]⟩), (3, ⟨#[120]⟩)]
abbrev L3 : List (Int × ByteArray) := [(1, ⟨#[121]⟩), (3, ⟨#[122]⟩)]
theorem p1 : putK 3 ⟨#[120]⟩ ([] : List (Int × ByteArray)) = L1 := rfl
theorem p2 : putK 1 ⟨#[121]⟩ L1 = L2 := rfl
theorem p3 : putK 3 ⟨#[122]⟩ L2 = L3 := rfl

theorem set_a {w0 : World} {p : Nat} {w : World} (h : NewTab_is w0 p [] w) : Calls Try.prog 12 #[.pointer (some ⟨p, 0, none⟩), .int .i64 3, .string ⟨#[120]⟩] w fun e w' => e = .returned (.bool true) ∧ NewTab_is w0 p L1 w' :=
  Set_nt h 3 ⟨#[120]⟩ (by simp [Srt]) (by simp)
theorem set_b {w0 : World} {p : Nat} {w : World} (h : NewTab_is w0 p L1 w) : Calls Try.prog 12 #[.pointer (some ⟨p, 0, none⟩), .int .i64 1, .string ⟨#[121]⟩] w fun e w' => e = .returned (.bool true) ∧ NewTab_is w0 p L2 w' :=
  Set_nt h 1 ⟨#[121]⟩ (by simp [Srt]) (by simp)
theorem set_c {w0 : World} {p : Nat} {w : World} (h : NewTab_is w0 p L2 w) : Calls Try.prog 12 #[.pointer (some ⟨p, 0, none⟩), .int .i64 3, .string ⟨#[122]⟩] w fun e w' => e = .returned (.bool false) ∧ NewTab_is w0 p L3 w' :=
  Set_nt h 3 ⟨#[122]⟩ (by simp [Srt]) (by simp)
theorem get_c {w0 : World} {p : Nat} {w : World} (h : NewTab_is w0 p L3 w) : Calls Try.prog 21 #[.pointer (some ⟨p, 0, none⟩), .int .i64 3] w fun e w' => e = .returned (.tuple #[.string ⟨#[122]⟩, .bool true]) ∧ NewTab_is w0 p L3 w' :=
  Get_nt h 3 (by simp [Srt]) (by simp)
theorem keys_c {w0 : World} {p : Nat} {w : World} (h : NewTab_is w0 p L3 w) : Calls Try.prog 22 #[.pointer (some ⟨p, 0, none⟩)] w fun e w' => ∃ g cap, e = .returned (.slice (some ⟨g, 0, none⟩) 2 cap) ∧ w'.cell? ⟨g, 0, none⟩ = some (.int .i64 1) ∧ NewTab_is w0 p L3 w' := by
  refine (Keys_nt h (by simp)).mono ?_
  rintro e w' ⟨v, rfl, h1, h2, h3⟩
  obtain ⟨g, cap, rfl, _, hr⟩ := row_of_owns h1 (by simp)
  exact ⟨g, cap, rfl, hr.cell rfl, h3⟩

theorem sb0 : sb 0 = ⟨#[97]⟩ := rfl
theorem sb1 : sb 1 = ⟨#[98]⟩ := rfl
theorem count_c (g : Nat) (w : World) (h : w.heap[g]? = some (.cells #[.string ⟨#[97]⟩, .string ⟨#[98]⟩, .string ⟨#[97]⟩] 9 (0, 0))) :
    Calls Try.prog 23 #[.slice (some ⟨g, 0, none⟩) 3 3] w fun e w' => ∃ q, e = .returned (.pointer (some ⟨q, 0, none⟩)) ∧ NewTab_si w q (cnt [0, 1, 0]) w' := by
  refine Count_any_si (some ⟨g, 0, none⟩) 3 3 [0, 1, 0] w rfl (by omega) (fun i k hk => ⟨g, 0, rfl, ?_⟩) (by intro k hk; simp at hk; unfold okS; omega)
  match i with
  | 0 => simp at hk; subst hk; simp [World.cell?, h, sb0]
  | 1 => simp at hk; subst hk; simp [World.cell?, h, sb1]
  | 2 => simp at hk; subst hk; simp [World.cell?, h, sb0]
  | i + 3 => simp at hk
theorem get_s (w0 : World) (q : Nat) (w : World) (h : NewTab_si w0 q (cnt [0, 1, 0]) w) : Calls Try.prog 24 #[.pointer (some ⟨q, 0, none⟩), .string ⟨#[97]⟩] w fun e w' => e = .returned (.tuple #[.int .i64 2, .bool true]) ∧ Oth [] w w' := by
  obtain ⟨S, ht, ho, hS⟩ := h
  have hq := cnt_ok [0, 1, 0]
  have := Get_any_si q S _ 0 w ht (fun p hp => by have := hq.mem p hp; simp at this; unfold okS; omega) (.inl rfl) hq.srt (by have := hq.len; simp at this; omega)
  rw [hq.get, hq.has, sb0] at this
  exact this

set_option maxHeartbeats 2000000 in
set_option maxRecDepth 10000 in
theorem awake_any (w : World) : Calls Try.prog 7 #[] w fun e w' => e = .returned (.bool true) ∧ Oth [] w w' := by
  have H0 := Lib.hid (NewTab_is.made w)
  go_enter Try.func7, Try.ntmps7
  go_wp2_with fail
  refine (set_a H0.out).mono ?_
  rintro e w1 ⟨rfl, h1⟩
  have H1 := Lib.hid h1
  clear h1 H0
  go_wp2_with fail
  refine (set_b H1.out).mono ?_
  rintro e w2 ⟨rfl, h1⟩
  have H2 := Lib.hid h1
  clear h1 H1
  go_wp2_with fail
  refine (set_c H2.out).mono ?_
  rintro e w3 ⟨rfl, h1⟩
  have H3 := Lib.hid h1
  clear h1 H2
  go_wp2_with fail
  refine (get_c H3.out).mono ?_
  rintro e w4 ⟨rfl, h1⟩
  have H4 := Lib.hid h1
  clear h1 H3
  go_wp2_with fail
  refine (keys_c H4.out).mono ?_
  rintro e w5 ⟨g, cap, rfl, hc5, h1⟩
  have H5 := Lib.hid h1
  clear h1 H4
  go_wp2_with fail
  refine (count_c _ _ (heap_alloc_new _ _)).mono ?_
  rintro e w6 ⟨q, rfl, h1⟩
  have ho6 : Oth [] w5 w6 := by
    obtain ⟨S, _, ho, _⟩ := h1
    exact ((Oth.refl _ _).alloc _).trans ho (Fr.nil _ _)
  have hc6 := ho6.cell hc5 (by simp)
  have H6 := Lib.hid h1
  have HT := Lib.hid (H5.out.oth ho6)
  clear h1 H5 hc5 ho6
  go_wp2_with fail
  refine (get_s _ _ _ H6.out).mono ?_
  rintro e w7 ⟨rfl, ho7⟩
  have hc7 := ho7.cell hc6 (by simp)
  have HT7 := Lib.hid (HT.out.oth ho7)
  clear ho7 hc6 HT H6
  go_wp2_with fail
  refine (Len_nt HT7.out).mono ?_
  rintro e w8 ⟨rfl, rfl⟩
  go_wp2
  go_ret
  exact ⟨rfl, HT7.out.out⟩
end Go.Proofs.Ytbjfojdhdjehpaa
