/- What an operation does hangs on the tape by the answers that it takes alone: for operations that ask the outside nothing and say neither 'disable' nor 'enable'. -/
import Derived.Conc.Beside
import Derived.WalkKit
namespace Go.Proofs.Ytminoelijdpmeaa
namespace Lift
open Go.Conc
set_option linter.unusedSimpArgs false

/-- The world under another tape, at another count of draws. -/
def re (w : World) (τ : Nat → Question → Nat) (d : Nat) : World := { w with tape := τ, drawn := d }
theorem re_re (w : World) (τ τ' : Nat → Question → Nat) (d d' : Nat) : re (re w τ d) τ' d' = re w τ' d' := rfl
theorem re_self (w : World) : re w w.tape w.drawn = w := rfl
theorem re_at (w : World) (d : Nat) : re w w.tape d = w.at d := rfl

def reR {α : Type} (r : Result α) (τ : Nat → Question → Nat) (d : Nat) : Result α := match r with
  | .ok a w => .ok a (re w τ d)
  | .halt h w => .halt h (re w τ d)
def rw {α : Type} : Result α → World
  | .ok _ w => w
  | .halt _ w => w

def twin (P : Program) (F : FuncId) (f' : Func) : Program := { P with funcs := P.funcs.setIfInBounds F f' }
section
variable (P : Program) (F : FuncId) (f' : Func)
theorem underlying_twin (t : TypeId) : (twin P F f').underlying t = P.underlying t := rfl
theorem cellsOf_twin (t : TypeId) : (twin P F f').cellsOf t = P.cellsOf t := rfl
theorem bytesOf_twin (t : TypeId) : (twin P F f').bytesOf t = P.bytesOf t := rfl
theorem depth_twin : (twin P F f').depth = P.depth := rfl
theorem plainCell_twin (d : Nat) : ∀ t o, plainCell (twin P F f') d t o = plainCell P d t o := by
  induction d with
  | zero => intro t o; rfl
  | succ d ih => intro t o; simp only [plainCell, underlying_twin, cellsOf_twin, ih]; rfl
theorem byteOfCell_twin (d : Nat) : ∀ t o, byteOfCell (twin P F f') d t o = byteOfCell P d t o := by
  induction d with
  | zero => intro t o; rfl
  | succ d ih => intro t o; simp only [byteOfCell, underlying_twin, cellsOf_twin, bytesOf_twin, ih]; rfl
theorem cellHolding_twin (d : Nat) : ∀ t o, cellHolding (twin P F f') d t o = cellHolding P d t o := by
  induction d with
  | zero => intro t o; rfl
  | succ d ih => intro t o; simp only [cellHolding, underlying_twin, cellsOf_twin, bytesOf_twin, ih]; rfl
theorem tight_twin (d : Nat) : ∀ t, tight (twin P F f') d t = tight P d t := by
  induction d with
  | zero => intro t; rfl
  | succ d ih => intro t; simp only [tight, underlying_twin, bytesOf_twin, ih]
theorem seenCells_twin (c : Array Value) (e : TypeId) (n : Nat) : ∀ x s, seenCells (twin P F f') c e n x s = seenCells P c e n x s := by
  induction n with
  | zero => intro x s; rfl
  | succ n ih => intro x s; simp only [seenCells, cellHolding_twin, cellsOf_twin, bytesOf_twin, depth_twin, ih]
theorem seen_twin (w : World) (at_ : Addr) (u : TypeId) (k : Addr) (b : Bool) : w.seen (twin P F f') at_ u k b = w.seen P at_ u k b := by
  unfold World.seen
  simp only [plainCell_twin, byteOfCell_twin, seenCells_twin, cellsOf_twin, bytesOf_twin, depth_twin]; rfl
theorem farLoad_twin (w : World) (a : Addr) (b : Bool) : w.farLoad (twin P F f') a b = w.farLoad P a b := by
  unfold World.farLoad World.viewLoad
  simp only [seen_twin]
theorem farStore_twin (w : World) (a : Addr) (v : Value) (b : Bool) : w.farStore (twin P F f') a v b = w.farStore P a v b := by
  unfold World.farStore World.viewStore
  simp only [seen_twin, tight_twin, depth_twin]
end
/-- Nothing is asked. -/
abbrev Any {α : Type} : α → Prop := fun _ => True
/-- A panic, or a refusal. -/
def okHalt : Halt → Prop
  | .panic _ => True
  | .stuck _ => True
  | .unsupported _ => True
  | _ => False
/-- Neither word to the outside nor mark but 'noRoom'; nothing of the program but what its twin has too; what comes of it is 'Ok'. -/
def Tame (P P' : Program) {α : Type} (Ok : α → Prop) : Sem α → Prop
  | .pure a => Ok a
  | .load _ _ k => ∀ v, Tame P P' Ok (k v)
  | .store _ _ _ k => Tame P P' Ok k
  | .new _ k => ∀ r, Tame P P' Ok (k r)
  | .shape _ k => ∀ s, Tame P P' Ok (k s)
  | .freeze _ _ k => Tame P P' Ok k
  | .frozen _ k => ∀ b, Tame P P' Ok (k b)
  | .getObj _ k => ∀ o, Tame P P' Ok (k o)
  | .setObj _ _ _ => False
  | .choose _ k => ∀ n, Tame P P' Ok (k n)
  | .sys _ _ => False
  | .program k => k P' = k P ∧ Tame P P' Ok (k P)
  | .mark m k => m = .noRoom ∧ Tame P P' Ok k
  | .halt h => okHalt h

abbrev Ev (B : Nat) (e : Event) : Prop := EvL (fun _ => False) B e
theorem Ev.mono {B B' : Nat} (h : B ≤ B') {e : Event} (he : Ev B e) : Ev B' e := ⟨fun _ _ x => x.elim, he.2.1, he.2.2.1, MemAct.low_mono h he.2.2.2⟩
theorem ev_cell {B : Nat} (a : Addr) (wr s : Bool) (h : a.block < B) : Ev B ⟨.cell a, wr, s⟩ := ⟨fun _ _ x => x.elim, by simp, by simp, by show a.block < B; exact h⟩
theorem ev_look {B : Nat} (r : Nat) (s : Bool) (h : r < B) : Ev B ⟨.obj r, false, s⟩ := ⟨fun _ _ x => x.elim, by simp, by simp, by show r < B; exact h⟩
theorem ev_noRoom (B : Nat) : Ev B ⟨.mark .noRoom, false, true⟩ := ⟨fun _ _ x => x.elim, by simp, by simp, trivial⟩

/-- What is known of a run: how many answers it took; that it goes alike wherever those answers are given, and in the twin. -/
structure Local (P P' : Program) {α : Type} (Ok : α → Prop) (s : Sem α) (w : World) (es : Array Event) (k : Nat) : Prop where
  drawn : (rw (s.runT P w es).1).drawn = w.drawn + k
  tape : (rw (s.runT P w es).1).tape = w.tape
  alike : ∀ τ d, (∀ j, j < k → τ (d + j) = w.tape (w.drawn + j)) → s.runT P (re w τ d) es = (reR (s.runT P w es).1 τ (d + k), (s.runT P w es).2)
  twin : s.runT P' w es = s.runT P w es
  ok : ∀ a w', (s.runT P w es).1 = .ok a w' → Ok a
  halted : ∀ h w', (s.runT P w es).1 = .halt h w' → okHalt h
  grow : w.heap.size ≤ (rw (s.runT P w es).1).heap.size
  evs : ∀ e ∈ (s.runT P w es).2, e ∈ es ∨ Ev (rw (s.runT P w es).1).heap.size e

theorem local_halt {P P' : Program} {α : Type} {Ok : α → Prop} {s : Sem α} {w : World} {es : Array Event} {h : Halt} (h0 : s.runT P w es = (.halt h w, es)) (h1 : ∀ τ d, s.runT P (re w τ d) es = (.halt h (re w τ d), es)) (h2 : s.runT P' w es = (.halt h w, es)) (hh : okHalt h) : ∃ k, Local P P' Ok s w es k :=
  ⟨0, by rw [h0]; rfl, by rw [h0]; rfl, fun τ d _ => by rw [h0, h1]; rfl, by rw [h0, h2], fun a w' hx => (by rw [h0] at hx; cases hx), fun x w' hx => (by rw [h0] at hx; cases hx; exact hh), by rw [h0]; exact Nat.le_refl _, fun e he => by rw [h0] at he; exact .inl he⟩

/-- The same run, in a world that differs not in the tape. -/
theorem local_via {P P' : Program} {α : Type} {Ok : α → Prop} {s s' : Sem α} {w w' : World} {es es' : Array Event} (hd : w'.drawn = w.drawn) (ht : w'.tape = w.tape) (hg : w.heap.size ≤ w'.heap.size) (h0 : s.runT P w es = s'.runT P w' es') (h1 : ∀ τ d, s.runT P (re w τ d) es = s'.runT P (re w' τ d) es')
    (h2 : s.runT P' w es = s'.runT P' w' es') (he : ∀ e ∈ es', e ∈ es ∨ Ev w'.heap.size e) (h : ∃ k, Local P P' Ok s' w' es' k) : ∃ k, Local P P' Ok s w es k := by
  obtain ⟨k, a, b, c, tw, o, hl, g, d⟩ := h
  refine ⟨k, by rw [h0, a, hd], by rw [h0, b, ht], fun τ n hn => ?_, by rw [h2, h0, tw], fun x y hx => o x y (by rw [← h0]; exact hx), fun x y hx => hl x y (by rw [← h0]; exact hx), by rw [h0]; exact Nat.le_trans hg g, fun e hx => ?_⟩
  · rw [h1, h0]; exact c τ n (by rw [hd, ht]; exact hn)
  · rw [h0] at hx ⊢
    rcases d e hx with hx | hx
    · exact (he e hx).imp id (Ev.mono g)
    · exact .inr hx

theorem farLoad_re (P : Program) (w : World) (a : Addr) (b : Bool) (τ : Nat → Question → Nat) (d : Nat) : (re w τ d).farLoad P a b = w.farLoad P a b := rfl
theorem seen_re (P : Program) (w : World) (at_ : Addr) (u : TypeId) (k : Addr) (b : Bool) (τ : Nat → Question → Nat) (d : Nat) : (re w τ d).seen P at_ u k b = w.seen P at_ u k b := rfl
theorem viewStore_re (P : Program) (w : World) (at_ : Addr) (u : TypeId) (k : Addr) (v : Value) (b : Bool) (τ : Nat → Question → Nat) (d : Nat) :
    (re w τ d).viewStore P at_ u k v b = (w.viewStore P at_ u k v b).map fun x => (re x.1 τ d, x.2) := by
  unfold World.viewStore
  rw [seen_re]
  cases tight P P.depth u
  · rfl
  · cases w.seen P at_ u k b with
    | error e => rfl
    | ok x =>
      obtain ⟨c, e, fr, first, like, cells⟩ := x
      simp only [bind, Except.bind, pure, Except.pure, Except.map, Bool.not_true, Bool.false_eq_true, if_false]
      cases v.bytes? with
      | none => rfl
      | some bytes =>
        simp only
        split
        · rfl
        · split
          · rfl
          · rfl
theorem farStore_re (P : Program) (w : World) (a : Addr) (v : Value) (b : Bool) (τ : Nat → Question → Nat) (d : Nat) :
    (re w τ d).farStore P a v b = (w.farStore P a v b).map fun x => (re x.1 τ d, x.2) := by
  have hh : (re w τ d).heap = w.heap := rfl
  unfold World.farStore
  rw [hh]
  split
  · rw [viewStore_re]
    cases w.viewStore P _ _ a v b <;> rfl
  · rfl
theorem farStore_tape {P : Program} {w w' : World} {a : Addr} {v : Value} {b : Bool} {l : List Addr} (h : w.farStore P a v b = .ok (w', l)) : w'.tape = w.tape ∧ w'.drawn = w.drawn := by
  have := farStore_re P w a v b w.tape w.drawn
  rw [re_self, h] at this
  simp only [Except.map, Except.ok.injEq, Prod.mk.injEq, and_true] at this
  constructor <;> rw [this] <;> rfl

theorem seen_low {P : Program} {w : World} {at_ : Addr} {u : TypeId} {k : Addr} {b : Bool} {x} (h : w.seen P at_ u k b = .ok x) : at_.block < w.heap.size := by
  rcases Nat.lt_or_ge at_.block w.heap.size with hb | hb
  · exact hb
  · exfalso
    have hn : w.heap[at_.block]? = none := Array.getElem?_eq_none hb
    unfold World.seen at h
    simp only [hn, bind, Except.bind, pure, Except.pure, throw, throwThe, MonadExceptOf.throw] at h
    repeat' split at h
    all_goals cases h
theorem viewLoad_low {P : Program} {w : World} {at_ : Addr} {u : TypeId} {k : Addr} {b : Bool} {v : Value} {l : List Addr} (h : w.viewLoad P at_ u k b = .ok (v, l)) : ∀ a ∈ l, a.block < w.heap.size := by
  unfold World.viewLoad at h
  cases hs : w.seen P at_ u k b with
  | error e => rw [hs] at h; cases h
  | ok x =>
    obtain ⟨c, e, fr, first, like, cells⟩ := x
    rw [hs] at h
    simp only [bind, Except.bind, pure, Except.pure] at h
    have hb : at_.block < w.heap.size := seen_low hs
    split at h
    · simp only [Except.ok.injEq, Prod.mk.injEq] at h
      intro a ha
      rw [← h.2] at ha
      obtain ⟨y, _, rfl⟩ := List.mem_map.1 ha
      exact hb
    · cases h
theorem viewStore_low {P : Program} {w w' : World} {at_ : Addr} {u : TypeId} {k : Addr} {v : Value} {b : Bool} {l : List Addr} (h : w.viewStore P at_ u k v b = .ok (w', l)) : w'.heap.size = w.heap.size ∧ ∀ a ∈ l, a.block < w.heap.size := by
  unfold World.viewStore at h
  cases ht : tight P P.depth u
  · simp only [ht, Bool.not_false, if_true] at h; cases h
  cases hs : w.seen P at_ u k b with
  | error e => simp only [ht, hs, Bool.not_true, Bool.false_eq_true, if_false, bind, Except.bind, pure, Except.pure] at h; cases h
  | ok x =>
    obtain ⟨c, e, fr, first, like, cells⟩ := x
    have hb : at_.block < w.heap.size := seen_low hs
    simp only [ht, hs, Bool.not_true, Bool.false_eq_true, if_false, bind, Except.bind, pure, Except.pure] at h
    split at h
    · split at h
      · cases h
      · split at h
        · cases h
        · simp only [Except.ok.injEq, Prod.mk.injEq] at h
          refine ⟨by rw [← h.1]; simp, fun a ha => ?_⟩
          rw [← h.2] at ha
          obtain ⟨y, _, rfl⟩ := List.mem_map.1 ha
          exact hb
    · cases h
theorem farLoad_low {P : Program} {w : World} {a : Addr} {b : Bool} {v : Value} {l : List Addr} (h : w.farLoad P a b = .ok (v, l)) : ∀ x ∈ l, x.block < w.heap.size := by
  unfold World.farLoad at h
  split at h
  · split at h
    · rename_i r hr; cases h; exact viewLoad_low hr
    · cases h
  · cases h
theorem farStore_low {P : Program} {w w' : World} {a : Addr} {v : Value} {b : Bool} {l : List Addr} (h : w.farStore P a v b = .ok (w', l)) : w'.heap.size = w.heap.size ∧ ∀ x ∈ l, x.block < w.heap.size := by
  unfold World.farStore at h
  split at h
  · split at h
    · rename_i r hr; cases h; exact viewStore_low hr
    · cases h
  · cases h
theorem noCell_halt (w : World) (a : Addr) (s : String) : okHalt (w.noCell a s) := by
  unfold World.noCell
  split <;> trivial
theorem farLoad_halt {P : Program} {w : World} {a : Addr} {b : Bool} {h : Halt} (hf : w.farLoad P a b = .error h) : okHalt h := by
  unfold World.farLoad at hf
  split at hf
  · split at hf
    · cases hf
    · cases hf; trivial
  · cases hf; exact noCell_halt _ _ _
theorem farStore_halt {P : Program} {w : World} {a : Addr} {v : Value} {b : Bool} {h : Halt} (hf : w.farStore P a v b = .error h) : okHalt h := by
  unfold World.farStore at hf
  split at hf
  · split at hf
    · cases hf
    · cases hf; trivial
  · cases hf; exact noCell_halt _ _ _
theorem cell_low {w : World} {a : Addr} {v : Value} (h : w.cell? a = some v) : a.block < w.heap.size := by
  unfold World.cell? at h
  split at h
  · rename_i c e f hh; exact (Array.getElem?_eq_some_iff.1 hh).1
  · cases h
theorem setCell_size (w : World) (a : Addr) (v : Value) : (w.setCell a v).heap.size = w.heap.size := by simp [World.setCell]
theorem freeze_size (w : World) (a : Addr) (n : Nat) : (w.freeze a n).heap.size = w.heap.size := by
  unfold World.freeze; split <;> simp
theorem tame_local {P : Program} {F : FuncId} {f' : Func} {α : Type} {Ok : α → Prop} (s : Sem α) (hs : Tame P (twin P F f') Ok s) : ∀ (w : World) (es : Array Event), ∃ k, Local P (twin P F f') Ok s w es k := by
  induction s with
  | pure a => intro w es; exact ⟨0, rfl, rfl, fun τ d _ => rfl, rfl, fun a w' h => (by cases h; exact hs), fun a w' h => (by cases h), Nat.le_refl _, fun e he => .inl he⟩
  | load m a k ih =>
    intro w es
    cases hc : w.cell? a with
    | some v =>
      refine local_via (s' := k v) (w' := w) (es' := es.push ⟨.cell a, false, m == .atomic⟩) rfl rfl (Nat.le_refl _) (by simp only [Sem.runT, hc]) (fun τ d => ?_) (by simp only [Sem.runT, hc]) (fun e he => ?_) (ih v (hs v) _ _)
      · have : (re w τ d).cell? a = some v := hc
        simp only [Sem.runT, this]
      · rcases Array.mem_push.1 he with h | h
        · exact .inl h
        · subst h; exact .inr (ev_cell a _ _ (cell_low hc))
    | none =>
      cases hf : w.farLoad P a (m == .atomic) with
      | error h =>
        refine local_halt (h := h) (by simp only [Sem.runT, hc, hf]) (fun τ d => ?_) (by simp only [Sem.runT, hc, farLoad_twin, hf]) (farLoad_halt hf)
        have h1 : (re w τ d).cell? a = none := hc
        have h2 : (re w τ d).farLoad P a (m == .atomic) = .error h := hf
        simp only [Sem.runT, h1, h2]
      | ok x =>
        obtain ⟨v, l⟩ := x
        refine local_via (s' := k v) (w' := w) (es' := es ++ l.toArray.map (⟨.cell ·, false, m == .atomic⟩)) rfl rfl (Nat.le_refl _) (by simp only [Sem.runT, hc, hf]) (fun τ d => ?_) (by simp only [Sem.runT, hc, farLoad_twin, hf]) (fun e he => ?_) (ih v (hs v) _ _)
        · have h1 : (re w τ d).cell? a = none := hc
          have h2 : (re w τ d).farLoad P a (m == .atomic) = .ok (v, l) := hf
          simp only [Sem.runT, h1, h2]
        · rcases Array.mem_append.1 he with h | h
          · exact .inl h
          · obtain ⟨y, hy, rfl⟩ := Array.mem_map.1 h
            exact .inr (ev_cell y _ _ (farLoad_low hf y (by simpa using hy)))
  | store m a v k ih =>
    intro w es
    by_cases hv : (∃ x, v = .agg x) ∨ ∃ x, v = .tuple x
    · rcases hv with ⟨x, rfl⟩ | ⟨x, rfl⟩
      · exact local_halt (h := .stuck "store: not the value of one cell") rfl (fun τ d => rfl) rfl trivial
      · exact local_halt (h := .stuck "store: not the value of one cell") rfl (fun τ d => rfl) rfl trivial
    have hrun : ∀ (P : Program) (w : World), (Sem.store m a v k).runT P w es = match w.cell? a with
        | some _ => if w.frozen? a then (.halt (.unsupported (.unsafePointer "a write to bytes that a string shares")) w, es) else k.runT P (w.setCell a v) (es.push ⟨.cell a, true, m == .atomic⟩)
        | none => match w.farStore P a v (m == .atomic) with
          | .ok (w, touched) => k.runT P w (es ++ touched.toArray.map (⟨.cell ·, true, m == .atomic⟩))
          | .error h => (.halt h w, es) := by
      intro P w
      cases v <;> first | rfl | (exact absurd (.inl ⟨_, rfl⟩) hv) | (exact absurd (.inr ⟨_, rfl⟩) hv)
    cases hc : w.cell? a with
    | some x =>
      have hc' : ∀ τ d, (re w τ d).cell? a = some x := fun τ d => hc
      cases hf : w.frozen? a with
      | true =>
        have hf' : ∀ τ d, (re w τ d).frozen? a = true := fun τ d => hf
        exact local_halt (h := .unsupported (.unsafePointer "a write to bytes that a string shares")) (by rw [hrun]; simp only [hc, hf, if_true]) (fun τ d => by rw [hrun]; simp only [hc', hf', if_true]) (by rw [hrun]; simp only [hc, hf, if_true]) trivial
      | false =>
        have hf' : ∀ τ d, (re w τ d).frozen? a = false := fun τ d => hf
        refine local_via (s' := k) (w' := w.setCell a v) (es' := es.push ⟨.cell a, true, m == .atomic⟩) rfl rfl (by rw [setCell_size]; exact Nat.le_refl _) (by rw [hrun]; simp only [hc, hf, Bool.false_eq_true, if_false]) (fun τ d => ?_) (by rw [hrun]; simp only [hc, hf, Bool.false_eq_true, if_false]) (fun e he => ?_) (ih hs _ _)
        · rw [hrun]; simp only [hc', hf', Bool.false_eq_true, if_false]; rfl
        · rcases Array.mem_push.1 he with h | h
          · exact .inl h
          · subst h; exact .inr (ev_cell a _ _ (by rw [setCell_size]; exact cell_low hc))
    | none =>
      have hc' : ∀ τ d, (re w τ d).cell? a = none := fun τ d => hc
      cases hf : w.farStore P a v (m == .atomic) with
      | error h =>
        refine local_halt (h := h) (by rw [hrun]; simp only [hc, hf]) (fun τ d => ?_) (by rw [hrun]; simp only [hc, farStore_twin, hf]) (farStore_halt hf)
        rw [hrun]; simp only [hc', farStore_re, hf, Except.map]
      | ok x =>
        obtain ⟨w', l⟩ := x
        obtain ⟨ht, hd⟩ := farStore_tape hf
        obtain ⟨hsz, hl⟩ := farStore_low hf
        refine local_via (s' := k) (w' := w') (es' := es ++ l.toArray.map (⟨.cell ·, true, m == .atomic⟩)) hd ht (by rw [hsz]; exact Nat.le_refl _) (by rw [hrun]; simp only [hc, hf]) (fun τ d => ?_) (by rw [hrun]; simp only [hc, farStore_twin, hf]) (fun e he => ?_) (ih hs _ _)
        · rw [hrun]; simp only [hc', farStore_re, hf, Except.map]
        · rcases Array.mem_append.1 he with h | h
          · exact .inl h
          · obtain ⟨y, hy, rfl⟩ := Array.mem_map.1 h
            exact .inr (ev_cell y _ _ (by rw [hsz]; exact hl y (by simpa using hy)))
  | new o k ih =>
    intro w es
    exact local_via (s' := k w.heap.size) (w' := { w with heap := w.heap.push o }) (es' := es) rfl rfl (by simp) rfl (fun τ d => rfl) rfl (fun e he => .inl he) (ih _ (hs _) _ _)
  | shape r k ih =>
    intro w es
    exact local_via (s' := k (w.shape? r)) (w' := w) (es' := es) rfl rfl (Nat.le_refl _) rfl (fun τ d => rfl) rfl (fun e he => .inl he) (ih _ (hs _) _ _)
  | freeze a n k ih =>
    intro w es
    have hz : ∀ (w : World) (τ : Nat → Question → Nat) (d : Nat), (re w τ d).freeze a n = re (w.freeze a n) τ d := by
      intro w τ d
      have hh : (re w τ d).heap = w.heap := rfl
      unfold World.freeze
      rw [hh]
      split <;> rfl
    have hz' := hz w w.tape w.drawn
    rw [re_self] at hz'
    exact local_via (s' := k) (w' := w.freeze a n) (es' := es) (by rw [hz']; rfl) (by rw [hz']; rfl) (by rw [freeze_size]; exact Nat.le_refl _) (by simp only [Sem.runT]) (fun τ d => by simp only [Sem.runT]; rw [hz]) (by simp only [Sem.runT]) (fun e he => .inl he) (ih hs _ _)
  | frozen a k ih =>
    intro w es
    exact local_via (s' := k (w.frozen? a)) (w' := w) (es' := es) rfl rfl (Nat.le_refl _) rfl (fun τ d => rfl) rfl (fun e he => .inl he) (ih _ (hs _) _ _)
  | getObj r k ih =>
    intro w es
    cases ho : w.heap[r]? with
    | none =>
      have ho' : ∀ τ d, (re w τ d).heap[r]? = none := fun τ d => ho
      exact local_halt (h := .stuck "getObj: no such block") (by simp only [Sem.runT, ho]) (fun τ d => by simp only [Sem.runT, ho']) (by simp only [Sem.runT, ho]) trivial
    | some o =>
      have ho' : ∀ τ d, (re w τ d).heap[r]? = some o := fun τ d => ho
      by_cases hcell : ∃ c t f, o = .cells c t f
      · obtain ⟨c, t, f, rfl⟩ := hcell
        exact local_halt (h := .stuck "getObj: a row of cells") (by simp only [Sem.runT, ho]) (fun τ d => by simp only [Sem.runT, ho']) (by simp only [Sem.runT, ho]) trivial
      · have hm : ∀ (P : Program) (w : World), w.heap[r]? = some o → (Sem.getObj r k).runT P w es = (k o).runT P w (es.push ⟨.obj r, false, o.isChan⟩) := by
          intro P w hw
          cases o <;> first | (exact absurd ⟨_, _, _, rfl⟩ hcell) | (simp only [Sem.runT, hw])
        refine local_via (s' := k o) (w' := w) (es' := es.push ⟨.obj r, false, o.isChan⟩) rfl rfl (Nat.le_refl _) (hm P w ho) (fun τ d => hm P _ (ho' τ d)) (hm _ w ho) (fun e he => ?_) (ih _ (hs _) _ _)
        rcases Array.mem_push.1 he with h | h
        · exact .inl h
        · subst h; exact .inr (ev_look r _ (Array.getElem?_eq_some_iff.1 ho).1)
  | setObj r o k ih => exact hs.elim
  | choose q k ih =>
    intro w es
    have hrun : ∀ (P : Program) (w : World), (Sem.choose q k).runT P w es = if q.forced then (k 0).runT P w es else (k (q.cut (w.tape w.drawn q))).runT P { w with drawn := w.drawn + 1 } es := fun P w => rfl
    cases hq : q.forced with
    | true => exact local_via (s' := k 0) (w' := w) (es' := es) rfl rfl (Nat.le_refl _) (by rw [hrun, hq]; rfl) (fun τ d => by rw [hrun, hq]; rfl) (by rw [hrun, hq]; rfl) (fun e he => .inl he) (ih _ (hs _) _ _)
    | false =>
      obtain ⟨n, a, b, c, tw, o, hl, g, d⟩ := ih (q.cut (w.tape w.drawn q)) (hs _) { w with drawn := w.drawn + 1 } es
      have e0 : ∀ P : Program, (Sem.choose q k).runT P w es = (k (q.cut (w.tape w.drawn q))).runT P { w with drawn := w.drawn + 1 } es := fun P => by rw [hrun, hq]; rfl
      refine ⟨n + 1, by rw [e0, a]; show w.drawn + 1 + n = _; omega, by rw [e0, b], fun τ x hx => ?_, by rw [e0, e0, tw], fun x y hxy => o x y (by rw [← e0]; exact hxy), fun x y hxy => hl x y (by rw [← e0]; exact hxy), by rw [e0]; exact g, fun e he => by rw [e0] at he ⊢; exact d e he⟩
      have h0 := hx 0 (by omega)
      have e1 : (Sem.choose q k).runT P (re w τ x) es = (k (q.cut (w.tape w.drawn q))).runT P (re { w with drawn := w.drawn + 1 } τ (x + 1)) es := by
        rw [hrun, hq]
        simp only [Nat.add_zero] at h0
        show (k (q.cut (τ x q))).runT P _ es = _
        rw [h0]; rfl
      rw [e0, e1, c τ (x + 1) (fun j hj => by have := hx (j + 1) (by omega); rw [show x + 1 + j = x + (j + 1) by omega, this]; show w.tape (w.drawn + (j + 1)) = w.tape (w.drawn + 1 + j); rw [show w.drawn + (j + 1) = w.drawn + 1 + j by omega]), show x + 1 + n = x + (n + 1) by omega]
  | sys c k ih => exact hs.elim
  | program k ih =>
    intro w es
    exact local_via (s' := k P) (w' := w) (es' := es) rfl rfl (Nat.le_refl _) rfl (fun τ d => rfl) (by show (k (twin P F f')).runT (twin P F f') w es = _; rw [hs.1]) (fun e he => .inl he) (ih _ hs.2 _ _)
  | mark m k ih =>
    intro w es
    obtain ⟨rfl, hs⟩ := hs
    refine local_via (s' := k) (w' := w) (es' := es.push ⟨.mark .noRoom, false, true⟩) rfl rfl (Nat.le_refl _) rfl (fun τ d => rfl) rfl (fun e he => ?_) (ih hs _ _)
    rcases Array.mem_push.1 he with h | h
    · exact .inl h
    · subst h; exact .inr (ev_noRoom _)
  | halt h => intro w es; exact local_halt (h := h) rfl (fun τ d => rfl) rfl hs

theorem Tame.bind' {P P' : Program} {α β : Type} {Ok : α → Prop} {Ok' : β → Prop} (s : Sem α) {f : α → Sem β} (hs : Tame P P' Ok s) (hf : ∀ a, Ok a → Tame P P' Ok' (f a)) : Tame P P' Ok' (s.bind f) := by
  induction s with
  | pure a => exact hf a hs
  | load m a k ih => exact fun v => ih v (hs v)
  | store m a v k ih => exact ih hs
  | new o k ih => exact fun r => ih r (hs r)
  | shape r k ih => exact fun x => ih x (hs x)
  | freeze a n k ih => exact ih hs
  | frozen a k ih => exact fun x => ih x (hs x)
  | getObj r k ih => exact fun x => ih x (hs x)
  | setObj r o k ih => exact hs.elim
  | choose q k ih => exact fun x => ih x (hs x)
  | sys c k ih => exact hs.elim
  | program k ih => exact ⟨by show (k P').bind f = (k P).bind f; rw [hs.1], ih _ hs.2⟩
  | mark m k ih => exact ⟨hs.1, ih hs.2⟩
  | halt h => exact hs
theorem Tame.bind {P P' : Program} {α β : Type} {Ok' : β → Prop} {s : Sem α} {f : α → Sem β} (Ok : α → Prop) (hs : Tame P P' Ok s) (hf : ∀ a, Ok a → Tame P P' Ok' (f a)) : Tame P P' Ok' (s >>= f) := Tame.bind' s hs hf
/-- Where nothing is asked of what comes. -/
theorem Tame.any {P P' : Program} {α β : Type} {Ok' : β → Prop} {s : Sem α} {f : α → Sem β} (hs : Tame P P' (fun _ => True) s) (hf : ∀ a, Tame P P' Ok' (f a)) : Tame P P' Ok' (s >>= f) := Tame.bind' s hs fun a _ => hf a
theorem Tame.mono {P P' : Program} {α : Type} {Ok Ok' : α → Prop} (h : ∀ a, Ok a → Ok' a) (s : Sem α) (hs : Tame P P' Ok s) : Tame P P' Ok' s := by
  induction s with
  | pure a => exact h a hs
  | load m a k ih => exact fun v => ih v (hs v)
  | store m a v k ih => exact ih hs
  | new o k ih => exact fun r => ih r (hs r)
  | shape r k ih => exact fun x => ih x (hs x)
  | freeze a n k ih => exact ih hs
  | frozen a k ih => exact fun x => ih x (hs x)
  | getObj r k ih => exact fun x => ih x (hs x)
  | setObj r o k ih => exact hs.elim
  | choose q k ih => exact fun x => ih x (hs x)
  | sys c k ih => exact hs.elim
  | program k ih => exact ⟨hs.1, ih _ hs.2⟩
  | mark m k ih => exact ⟨hs.1, ih hs.2⟩
  | halt h => exact hs

end Lift
end Go.Proofs.Ytminoelijdpmeaa
