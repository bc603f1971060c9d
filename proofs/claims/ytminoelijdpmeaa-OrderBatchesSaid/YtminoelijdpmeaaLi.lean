/- The lift: where the lone run of the twin returns whatever the tape, the program's own run beside leavers ends alike. -/
import Derived.Test.YtminoelijdpmeaaLh
namespace Go.Proofs.Ytminoelijdpmeaa
namespace Lift
open Go.Conc
set_option linter.unusedSimpArgs false

/-- The answers from count e on begin with L. -/
def Told (L : List (Question → Nat)) (τ : Tape) (e : Nat) : Prop := ∀ j x, L[j]? = some x → τ (e + j) = x

section
variable {P : Program} {F : FuncId} {f' : Func} {S : FuncId → Bool} {FS : Array Value → World → Value → World → Prop} {f : FuncId} {Post PostE : Value → World → Prop}

theorem leaving_ends (hinit : P.inits.idxOf? f = none) (hW : Walkable P F f' S) {fr : Frame} {w : World} (hP : ∀ v τ e d, Post v (re w τ e) → PostE v (w.at d)) {τ : Tape} {e : Nat} (ho : OkStack P F S fr []) (hf : fr.fn = f) {v : Value} (hl : fr.leaving (twin P F f') (re w τ e) (.returned v)) (hp : Post v (re w τ e)) : Ends P PostE (Gor fr []) w := by
  obtain ⟨hm, hd, hk, fn, hfn, hr⟩ := hl
  have hfn' : P.funcs[fr.fn]? = some fn := (twin_funcs_ne ho.top.other).symm.trans hfn
  obtain ⟨k, hdr, _, hal, htw, _, _, _, hev⟩ := tame_local _ (tame_results (P := P) (F := F) (f' := f') fn fr.tmps) (re w τ e) #[]
  have hr' : ((results fn fr.tmps).runT P (re w τ e) #[]).1 = .ok v (re w τ e) := by
    rw [← htw, Sem.runT_fst]; exact hr
  rw [hr'] at hdr hev
  have k0 : k = 0 := by
    have : e = e + k := hdr
    omega
  subst k0
  refine ends_done rfl fun d => ⟨v, seen P fr.fn ((results fn fr.tmps).runT P (re w τ e) #[]).2 ++ #[], ?_, fun x hx => ?_, hP _ _ _ _ hp⟩
  · have h1 := hal w.tape d (fun j hj => absurd hj (Nat.not_lt_zero _))
    rw [hr'] at h1
    have h2 : (results fn fr.tmps).runT P (w.at d) #[] = (.ok v (w.at d), ((results fn fr.tmps).runT P (re w τ e) #[]).2) := h1
    have hi : P.inits.idxOf? fr.fn = none := by rw [hf]; exact hinit
    simp only [Gor, stepG, hm, unwind, hd, hfn', h2, doReturn, hk, hi, Bool.not_true, Bool.false_eq_true, if_false]
    rfl
  · rcases hev x (mem_seen (by simpa using hx)) with h | h
    · simp at h
    · exact h

theorem told_append {L : List (Question → Nat)} {τ : Tape} {e k : Nat} {g : Nat → Question → Nat} (h : Told (L ++ (List.range k).map g) τ e) : Told L τ e ∧ ∀ j, j < k → τ (e + L.length + j) = g j := by
  constructor
  · intro j x hx
    have hlt := (List.getElem?_eq_some_iff.1 hx).1
    exact h j x (by rw [List.getElem?_append_left hlt]; exact hx)
  · intro j hj
    rw [Nat.add_assoc]
    refine h (L.length + j) (g j) ?_
    rw [List.getElem?_append_right (by omega)]
    simp [hj]

/-- The tape that begins with L, from count 0 on, and goes on as τ does from d on. -/
def splice (L : List (Question → Nat)) (τ : Tape) (d : Nat) : Tape := fun j => match L[j]? with
  | some x => x
  | none => τ (d + (j - L.length))
theorem splice_told (L : List (Question → Nat)) (τ : Tape) (d : Nat) : Told L (splice L τ d) 0 := by
  intro j x hx
  simp only [splice, Nat.zero_add, hx]
theorem splice_behind (L : List (Question → Nat)) (τ : Tape) (d j : Nat) : splice L τ d (L.length + j) = τ (d + j) := by
  have : L[L.length + j]? = none := List.getElem?_eq_none (by omega)
  simp only [splice, this, Nat.add_sub_cancel_left]

theorem Nx.tape (hM : Macro P F f' FS) {fr fr' : Frame} {cs cs' : List Frame} {w w' : World} {k : Nat} (h : Nx P F f' S FS fr cs w fr' cs' w' k) : w'.tape = w.tape := by
  cases h with
  | go o g => exact g.tape
  | call g h => exact ((hM.tape _ _ _ _ h).1).trans g.tape
  | sel g h => exact (selRes_facts h).2.1.trans g.tape

/-- A state of the chain: n steps at least, by the answers L. -/
structure Link (P : Program) (F : FuncId) (f' : Func) (S : FuncId → Bool) (Post : Value → World → Prop) (fr₀ : Frame) (w₀ : World) (n : Nat) (s : (Frame × List Frame) × World × List (Question → Nat)) : Prop where
  ok : OkStack P F S s.1.1 s.1.2
  no : ¬ Ends P Post (Gor s.1.1 s.1.2) s.2.1
  tape : s.2.1.tape = w₀.tape
  run : ∀ τ e, Told s.2.2 τ e → ∃ m, n ≤ m ∧ runN (twin P F f') m (lone fr₀ [wall] (re w₀ τ e)) = .next (lone s.1.1 (s.1.2 ++ [wall]) (re s.2.1 τ (e + s.2.2.length)))

theorem Link.next (hinit : P.inits.idxOf? f = none) (hW : Walkable P F f' S) (hM : Macro P F f' FS) {fr₀ : Frame} {w₀ : World} (hP : ∀ v w τ e d, w.tape = w₀.tape → Post v (re w τ e) → PostE v (w.at d))
    (hret : ∀ τ e, Rets (twin P F f') f Post (lone fr₀ [wall] (re w₀ τ e))) {n : Nat} {s : (Frame × List Frame) × World × List (Question → Nat)} (h : Link P F f' S PostE fr₀ w₀ n s) :
    ∃ s', Link P F f' S PostE fr₀ w₀ (n + 1) s' ∧ s.2.2 <+: s'.2.2 := by
  obtain ⟨⟨fr, cs⟩, w, L⟩ := s
  obtain ⟨hok, hno, htp, hrun⟩ := h
  dsimp only at hok hno htp hrun ⊢
  have hnx : ∀ d, ∃ fr' cs' w' k, Nx P F f' S FS fr cs (w.at d) fr' cs' w' k := by
    intro d
    obtain ⟨m, _, hm⟩ := hrun (splice L w.tape d) 0 (splice_told L w.tape d)
    rcases rets_nx hW hM hok ((hret _ _).at hm) with ⟨fr', cs', w', k, hx⟩ | ⟨rfl, hf, v, hl, hp⟩
    · refine ⟨fr', cs', _, k, hx.re hM (τ := w.tape) (d := d) fun j hj => ?_⟩
      show w.tape (d + j) = splice L w.tape d (0 + L.length + j)
      rw [Nat.zero_add, splice_behind]
    · exact absurd (leaving_ends hinit hW (fun v τ e d => hP v w τ e d htp) hok hf hl hp) hno
  have hbad : ∃ d fr' cs' w' k d', Nx P F f' S FS fr cs (w.at d) fr' cs' w' k ∧ ¬ Ends P PostE (Gor fr' cs') (w'.at d') := by
    apply Classical.byContradiction
    intro hc
    refine hno (ends_nx (S := S) hM fun d => ?_)
    obtain ⟨fr', cs', w', k, hx⟩ := hnx d
    exact ⟨fr', cs', w', k, hx, fun d' => Classical.byContradiction fun hn => hc ⟨d, fr', cs', w', k, d', hx, hn⟩⟩
  obtain ⟨d, fr', cs', w', k, d', hx, hn⟩ := hbad
  refine ⟨((fr', cs'), w'.at d', L ++ (List.range k).map fun j => w.tape (d + j)), ⟨hok.next hx, hn, (hx.tape hM).trans htp, fun τ e ht => ?_⟩, List.prefix_append _ _⟩
  obtain ⟨ht1, ht2⟩ := told_append ht
  obtain ⟨m, hle, hm⟩ := hrun τ e ht1
  have hx' := hx.re hM (τ := τ) (d := e + L.length) fun j hj => ht2 j hj
  obtain ⟨i, hi⟩ := hx'.lone hM [wall]
  refine ⟨m + (i + 1), by omega, ?_⟩
  rw [runN_add, hm]
  have e1 : e + (L ++ (List.range k).map fun j => w.tape (d + j)).length = e + L.length + k := by simp; omega
  dsimp only
  rw [e1]
  exact hi

theorem lift_frame (hinit : P.inits.idxOf? f = none) (hW : Walkable P F f' S) (hM : Macro P F f' FS) {fr₀ : Frame} {w₀ : World} (hP : ∀ v w τ e d, w.tape = w₀.tape → Post v (re w τ e) → PostE v (w.at d))
    (hok : OkStack P F S fr₀ []) (hret : ∀ τ e, Rets (twin P F f') f Post (lone fr₀ [wall] (re w₀ τ e))) : Ends P PostE (Gor fr₀ []) w₀ := by
  apply Classical.byContradiction
  intro hno
  have start : Link P F f' S PostE fr₀ w₀ 0 ((fr₀, []), w₀, []) := ⟨hok, hno, rfl, fun τ e _ => ⟨0, Nat.le_refl _, rfl⟩⟩
  have nxt : ∀ n (s : { s // Link P F f' S PostE fr₀ w₀ n s }), ∃ s' : { s // Link P F f' S PostE fr₀ w₀ (n + 1) s }, s.1.2.2 <+: s'.1.2.2 := fun n s => by
    obtain ⟨s', h1, h2⟩ := s.2.next hinit hW hM hP hret
    exact ⟨⟨s', h1⟩, h2⟩
  let sq : (n : Nat) → { s // Link P F f' S PostE fr₀ w₀ n s } := fun n => Nat.rec ⟨_, start⟩ (fun n s => (nxt n s).choose) n
  have hsq : ∀ n, (sq n).1.2.2 <+: (sq (n + 1)).1.2.2 := fun n => (nxt n (sq n)).choose_spec
  have hpre : ∀ k n, (sq n).1.2.2 <+: (sq (n + k)).1.2.2 := by
    intro k
    induction k with
    | zero => intro n; exact List.prefix_refl _
    | succ k ih => intro n; exact (ih n).trans (hsq (n + k))
  have get : ∀ (n k j : Nat) (x : Question → Nat), (sq n).1.2.2[j]? = some x → (sq (n + k)).1.2.2[j]? = some x := by
    intro n k j x hx
    obtain ⟨r, hr⟩ := hpre k n
    rw [← hr, List.getElem?_append_left (List.getElem?_eq_some_iff.1 hx).1]
    exact hx
  have same : ∀ (n n' j : Nat) (x x' : Question → Nat), (sq n).1.2.2[j]? = some x → (sq n').1.2.2[j]? = some x' → x = x' := by
    intro n n' j x x' hx hx'
    rcases Nat.le_total n n' with h | h
    · obtain ⟨k, rfl⟩ := Nat.exists_eq_add_of_le h
      have := get n k j x hx
      rw [this] at hx'; exact Option.some.inj hx'
    · obtain ⟨k, rfl⟩ := Nat.exists_eq_add_of_le h
      have := get n' k j x' hx'
      rw [this] at hx; exact (Option.some.inj hx).symm
  have tape : ∃ τ : Tape, ∀ n, Told (sq n).1.2.2 τ 0 := by
    classical
    refine ⟨fun j => if h : ∃ x, ∃ n, (sq n).1.2.2[j]? = some x then h.choose else fun _ => 0, fun n j x hx => ?_⟩
    have h : ∃ x, ∃ n, (sq n).1.2.2[j]? = some x := ⟨x, n, hx⟩
    rw [Nat.zero_add]
    dsimp only
    rw [dif_pos h]
    obtain ⟨n', hn'⟩ := h.choose_spec
    exact same n' n j _ _ hn' hx
  obtain ⟨τ, hτ⟩ := tape
  obtain ⟨n, o, w', hn, _⟩ := (hret τ 0).ended
  obtain ⟨m, hle, hm⟩ := (sq n).2.run τ 0 (hτ n)
  obtain ⟨k, rfl⟩ := Nat.exists_eq_add_of_le hle
  rw [runN_ended hn k] at hm
  cases hm

/-- The lift. -/
theorem lift (hinit : P.inits.idxOf? f = none) (hW : Walkable P F f' S) (hM : Macro P F f' FS) {w : World} (hP : ∀ v w' τ e d, w'.tape = w.tape → Post v (re w' τ e) → PostE v (w'.at d)) (hf : S f = true) (hF : f ≠ F) {args : Array Value}
    (hc : ∀ τ e, Calls (twin P F f') f args (re w τ e) fun x w' => ∃ v, x = .returned v ∧ Post v w') : Ends P PostE (Gor (Frame.enter P f args .normal) []) w := by
  refine lift_frame (FS := FS) hinit hW hM hP ⟨OkFrame.enter hW hf hF args, by simp⟩ fun τ e => ?_
  obtain ⟨x, w', fr, ⟨v, rfl, hp⟩, ⟨n, hn⟩, hfn, hl⟩ := hc τ e [wall]
  rw [enter_twin hF] at hn
  exact ⟨n, v, fr, w', hn, hfn, hl, hp⟩
end
end Lift
end Go.Proofs.Ytminoelijdpmeaa
