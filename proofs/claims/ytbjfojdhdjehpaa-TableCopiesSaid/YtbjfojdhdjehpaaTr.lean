/- A table and a list of pairs, held at once: the contracts of all calls. Condition: fewer than 256 entries, the keys in order. -/
import Derived.Test.YtbjfojdhdjehpaaTq
namespace Go.Proofs.Ytbjfojdhdjehpaa
open Go.RowKit
set_option linter.unusedVariables false
set_option linter.unusedSimpArgs false

/-- The table in block p has the entries L, and v reads as the pairs x, apart from the table; the table is new since w0. E: further objects, apart from the table. -/
def Hold (w0 : World) (p : Nat) (L : List (Int × ByteArray)) (v : Value) (x : List (Int × ByteArray)) (E : List (Nat × Obj)) (w : World) : Prop :=
  ∃ S B, Tab_is p S L w ∧ RP v x B w ∧ (∀ k, k ∈ S → w0.heap.size ≤ k) ∧ ((∀ k, k ∈ B → k ∉ S ∧ k < w.heap.size) ∧ ∀ q, q ∈ E → q.1 ∉ S ∧ w.heap[q.1]? = some q.2) ∧ Oth [] w0 w

section
variable {w0 : World} {p : Nat} {L : List (Int × ByteArray)} {v : Value} {x : List (Int × ByteArray)} {E : List (Nat × Obj)} {w : World}
theorem Hold.still {w' : World} (h : Hold w0 p L v x E w) (ho : Oth [] w w') : Hold w0 p L v x E w' := by
  obtain ⟨S, B, h1, h2, h3, h4, h5⟩ := h
  exact ⟨S, B, h1.oth ho (by simp), h2.oth ho (by simp), h3, ⟨fun k hk => ⟨(h4.1 k hk).1, Nat.lt_of_lt_of_le (h4.1 k hk).2 ho.size⟩, fun q hq => ⟨(h4.2 q hq).1, ho.heap (h4.2 q hq).2 (by simp)⟩⟩, h5.trans ho (Fr.nil _ _)⟩
theorem Hold.out (h : Hold w0 p L v x E w) : Oth [] w0 w := by obtain ⟨S, B, h1, h2, h3, h4, h5⟩ := h; exact h5
theorem Hold.tab (h : Hold w0 p L v x E w) : ∃ S, Tab_is p S L w := by obtain ⟨S, B, h1, h2, h3, h4, h5⟩ := h; exact ⟨S, h1⟩
theorem Hold.rp (h : Hold w0 p L v x E w) : ∃ B, RP v x B w ∧ ∀ k, k ∈ B → k < w.heap.size := by obtain ⟨S, B, h1, h2, h3, h4, h5⟩ := h; exact ⟨B, h2, fun k hk => (h4.1 k hk).2⟩
theorem Hold.move {L' : List (Int × ByteArray)} {S : List Nat} {B : List Nat} {w' : World} (h1 : Tab_is p S L w) (h2 : RP v x B w) (h3 : ∀ k, k ∈ S → w0.heap.size ≤ k) (h4 : (∀ k, k ∈ B → k ∉ S ∧ k < w.heap.size) ∧ ∀ q, q ∈ E → q.1 ∉ S ∧ w.heap[q.1]? = some q.2) (h5 : Oth [] w0 w)
    (hn : ∃ S', Tab_is p S' L' w' ∧ Fr S w S') (ho : Oth S w w') : Hold w0 p L' v x E w' := by
  obtain ⟨S', h6, h7⟩ := hn
  have hs := h5.size
  refine ⟨S', B, h6, h2.oth ho (fun k hk => (h4.1 k hk).1), fun k hk => ?_, ⟨fun k hk => ⟨fun e => ?_, Nat.lt_of_lt_of_le (h4.1 k hk).2 ho.size⟩, fun q hq => ⟨fun e => ?_, ho.heap (h4.2 q hq).2 (h4.2 q hq).1⟩⟩, h5.trans ho (fun k hk => .inr (h3 k hk))⟩
  · rcases h7 k hk with h | h
    · exact h3 k h
    · omega
  · rcases h7 k e with h | h
    · exact (h4.1 k hk).1 h
    · have := (h4.1 k hk).2; omega
  · rcases h7 q.1 e with h | h
    · exact (h4.2 q hq).1 h
    · have := lt_of_block (h4.2 q hq).2; omega
theorem Hold.list {v' : Value} {y : List (Int × ByteArray)} {w' : World} (h : Hold w0 p L v x E w) (ho : Oth [] w w') (hown : w'.ownsRow w.heap.size 43 2 v' y.length (ent_is y)) : Hold w0 p L v' y E w' := by
  obtain ⟨S, B, h1, h2, h3, h4, h5⟩ := h
  obtain ⟨B', h6, h7⟩ := rp_of_owns hown
  refine ⟨S, B', h1.oth ho (by simp), h6, h3, ⟨fun k hk => ⟨fun e => ?_, (h7 k hk).2⟩, fun q hq => ⟨(h4.2 q hq).1, ho.heap (h4.2 q hq).2 (by simp)⟩⟩, h5.trans ho (Fr.nil _ _)⟩
  have := h1.lt k e
  have := (h7 k hk).1
  omega
theorem Hold.made (w : World) : Hold w w.heap.size [] (.slice none 0 0) [] [] (w.alloc (.cells #[.slice none 0 0, .int .i64 0] 35)) := by
  obtain ⟨S, h1, h2, h3⟩ := NewTab_is.made w
  exact ⟨S, [], h1, RP.nil _, h3, by simp, h2⟩

theorem Hold.less (h : Hold w0 p L v x E w) : Hold w0 p L v x [] w := by
  obtain ⟨S, B, h1, h2, h3, h4, h5⟩ := h
  exact ⟨S, B, h1, h2, h3, ⟨h4.1, by simp⟩, h5⟩
theorem Hold.more (h : Hold w0 p L v x E w) (o : Obj) : Hold w0 p L v x ((w.heap.size, o) :: E) (w.alloc o) := by
  have h' := h.still ((Oth.refl [] w).alloc o)
  obtain ⟨S, B, h1, h2, h3, h4, h5⟩ := h
  have ho := (Oth.refl [] w).alloc o
  refine ⟨S, B, h1.oth ho (by simp), h2.oth ho (by simp), h3, ⟨fun k hk => ⟨(h4.1 k hk).1, Nat.lt_of_lt_of_le (h4.1 k hk).2 ho.size⟩, fun q hq => ?_⟩, h5.trans ho (Fr.nil _ _)⟩
  rcases List.mem_cons.1 hq with rfl | hq
  · exact ⟨fun e => by have := h1.lt _ e; omega, heap_alloc_new _ _⟩
  · exact ⟨(h4.2 q hq).1, ho.heap (h4.2 q hq).2 (by simp)⟩
theorem Hold.at (h : Hold w0 p L v x E w) {g : Nat} {o : Obj} (hm : (g, o) ∈ E) : w.heap[g]? = some o := by
  obtain ⟨S, B, h1, h2, h3, h4, h5⟩ := h
  exact (h4.2 _ hm).2

theorem Hold.Set (h : Hold w0 p L v x E w) (k : Int) (s : ByteArray) (hs : Srt L) (h1 : L.length < 256) :
    Calls Try.prog 12 #[.pointer (some ⟨p, 0, none⟩), .int .i64 k, .string s] w fun e w' => e = .returned (.bool (!hasK k L)) ∧ Hold w0 p (putK k s L) v x E w' := by
  obtain ⟨S, B, g1, g2, g3, g4, g5⟩ := h
  refine (Set_any_is p S L k s w g1 (fun _ _ => trivial) trivial hs h1).mono ?_
  rintro e w' ⟨rfl, h2, h3⟩
  exact ⟨rfl, Hold.move g1 g2 g3 g4 g5 h2 h3⟩
theorem Hold.Get (h : Hold w0 p L v x E w) (k : Int) (hs : Srt L) (h1 : L.length < 256) :
    Calls Try.prog 21 #[.pointer (some ⟨p, 0, none⟩), .int .i64 k] w fun e w' => e = .returned (.tuple #[.string (getK ⟨#[]⟩ k L), .bool (hasK k L)]) ∧ Hold w0 p L v x E w' := by
  have h' := h
  obtain ⟨S, B, g1, g2, g3, g4, g5⟩ := h
  refine (Get_any_is p S L k w g1 (fun _ _ => trivial) trivial hs (by omega)).mono ?_
  rintro e w' ⟨rfl, h2⟩
  exact ⟨rfl, h'.still h2⟩
theorem Hold.Has (h : Hold w0 p L v x E w) (k : Int) (hs : Srt L) (h1 : L.length < 256) :
    Calls Try.prog 34 #[.pointer (some ⟨p, 0, none⟩), .int .i64 k] w fun e w' => e = .returned (.bool (hasK k L)) ∧ Hold w0 p L v x E w' := by
  have h' := h
  obtain ⟨S, B, g1, g2, g3, g4, g5⟩ := h
  refine (Has_any p S L k w g1 hs (by omega)).mono ?_
  rintro e w' ⟨rfl, h2⟩
  exact ⟨rfl, h'.still h2⟩
theorem Hold.Del (h : Hold w0 p L v x E w) (k : Int) (hs : Srt L) (h1 : L.length < 256) :
    Calls Try.prog 35 #[.pointer (some ⟨p, 0, none⟩), .int .i64 k] w fun e w' => e = .returned (.tuple #[.string (getK ⟨#[]⟩ k L), .bool (hasK k L)]) ∧ Hold w0 p (outK k L) v x E w' := by
  obtain ⟨S, B, g1, g2, g3, g4, g5⟩ := h
  refine (Del_any p S L k w g1 hs (by omega)).mono ?_
  rintro e w' ⟨rfl, h2, h3⟩
  exact ⟨rfl, Hold.move g1 g2 g3 g4 g5 h2 h3⟩
theorem Hold.Pop0 (h : Hold w0 p [] v x E w) :
    Calls Try.prog 15 #[.pointer (some ⟨p, 0, none⟩)] w fun e w' => e = .returned (.tuple #[.int .i64 0, .string ⟨#[]⟩, .bool false]) ∧ w = w' := by
  obtain ⟨S, B, g1, g2, g3, g4, g5⟩ := h
  exact Pop_none p S w g1
theorem Hold.Pop {k : Int} {s : ByteArray} {r : List (Int × ByteArray)} (h : Hold w0 p ((k, s) :: r) v x E w) (h1 : r.length < 256) :
    Calls Try.prog 15 #[.pointer (some ⟨p, 0, none⟩)] w fun e w' => e = .returned (.tuple #[.int .i64 k, .string s, .bool true]) ∧ Hold w0 p r v x E w' := by
  obtain ⟨S, B, g1, g2, g3, g4, g5⟩ := h
  refine (Pop_some p S k s r w g1 (by omega)).mono ?_
  rintro e w' ⟨rfl, h2, h3⟩
  exact ⟨rfl, Hold.move g1 g2 g3 g4 g5 h2 h3⟩
theorem Hold.Len (h : Hold w0 p L v x E w) : Calls Try.prog 16 #[.pointer (some ⟨p, 0, none⟩)] w fun e w' => e = .returned (.int .i64 L.length) ∧ w = w' := by
  obtain ⟨S, B, g1, g2, g3, g4, g5⟩ := h
  exact Len_any p S L w g1
theorem Hold.Keys (h : Hold w0 p L v x E w) (h1 : L.length < 256) :
    Calls Try.prog 22 #[.pointer (some ⟨p, 0, none⟩)] w fun e w' => ∃ v', e = .returned v' ∧ w'.ownsRow w.heap.size 3 1 v' L.length (keyCells_is L) ∧ Oth [] w w' := by
  obtain ⟨S, B, g1, g2, g3, g4, g5⟩ := h
  exact Keys_any_is p S L w g1 (by omega)
theorem Hold.setx (h : Hold w0 p L v x E w) (k : Int) (s : ByteArray) (h1 : x.length < 256) :
    Calls Try.prog 13 #[v, .int .i64 k, .string s] w fun e w' => ∃ v', e = .returned v' ∧ Hold w0 p L v' (setP k s x) E w' := by
  have h' := h
  obtain ⟨S, B, g1, g2, g3, g4, g5⟩ := h
  refine (Set_own v x B k s w g2 (by omega)).mono ?_
  rintro e w' ⟨v', rfl, h2, h3⟩
  exact ⟨v', rfl, h'.list h3 h2⟩
theorem Hold.delx (h : Hold w0 p L v x E w) (k : Int) (h1 : x.length < 256) :
    Calls Try.prog 31 #[v, .int .i64 k] w fun e w' => ∃ v', e = .returned v' ∧ Hold w0 p L v' (delP k x) E w' := by
  have h' := h
  obtain ⟨S, B, g1, g2, g3, g4, g5⟩ := h
  refine (Del_own v x B k w g2 (by omega)).mono ?_
  rintro e w' ⟨v', rfl, h2, h3⟩
  exact ⟨v', rfl, h'.list h3 h2⟩
theorem Hold.findx (h : Hold w0 p L v x E w) (k : Int) (h1 : x.length < 256) :
    Calls Try.prog 33 #[v, .int .i64 k] w fun e w' => (∃ z, e = .returned (.int .i64 z) ∧ FoundP k x z) ∧ w = w' := by
  obtain ⟨S, B, g1, g2, g3, g4, g5⟩ := h
  exact Find_own v x B k w g2 (by omega)
theorem Hold.sorted {M : List (Int × ByteArray)} (h : Hold w0 p L v x E w) (hl : Like x M) (h1 : x.length < 256) :
    Calls Try.prog 14 #[v] w fun e w' => ∃ v', e = .returned v' ∧ Hold w0 p L v' M E w' ∧ w'.ownsRow w.heap.size 43 2 v' M.length (ent_is M) ∧ Oth [] w w' := by
  have h' := h
  obtain ⟨S, B, g1, g2, g3, g4, g5⟩ := h
  refine (Sorted_own v x M B w g2 (fun k hk => (g4.1 k hk).2) hl (by omega)).mono ?_
  rintro e w' ⟨v', rfl, h2, h3⟩
  exact ⟨v', rfl, h'.list h3 h2, h2, h3⟩
end
end Go.Proofs.Ytbjfojdhdjehpaa
