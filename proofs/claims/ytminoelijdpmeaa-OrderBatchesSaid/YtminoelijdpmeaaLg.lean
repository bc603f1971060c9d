/- A select of one receive case with a default: alone, and beside leavers: alike. -/
import Derived.Test.YtminoelijdpmeaaLf
import Derived.Conc.LoneSelect
namespace Go.Proofs.Ytminoelijdpmeaa
namespace Lift
open Go.Conc
set_option linter.unusedSimpArgs false

/-- What such a select yields, the world behind it, and what it says in the trace. -/
def selRes (w : World) (v z : Value) : Option (Value × World × Array MemAct) :=
  match v with
  | .chan none => some (.tuple #[goInt (-1), .bool false, z], w, #[])
  | .chan (some c) => match w.heap[c]? with
    | some (.chan cap buf closed s r tm) =>
      if 0 < buf.size then some (.tuple #[goInt 0, .bool true, buf.getD 0 undef], w.setChan c cap (buf.extract 1 buf.size) closed s (r + 1) tm, #[.recv c r cap, .recvDone c r])
      else if closed then some (.tuple #[goInt 0, .bool false, z], w, #[.recvClosed c])
      else some (.tuple #[goInt (-1), .bool false, z], w, #[])
    | _ => none
  | _ => none

theorem selRes_re (w : World) (v z : Value) (τ : Nat → Question → Nat) (d : Nat) : selRes (re w τ d) v z = (selRes w v z).map fun x => (x.1, re x.2.1 τ d, x.2.2) := by
  have hh : (re w τ d).heap = w.heap := rfl
  unfold selRes
  rw [hh]
  repeat' first | rfl | split

theorem selRes_facts {w w' : World} {v z x : Value} {acts : Array MemAct} (h : selRes w v z = some (x, w', acts)) :
    w'.drawn = w.drawn ∧ w'.tape = w.tape ∧ w'.heap.size = w.heap.size ∧ ∀ a ∈ acts, a.touch? = none ∧ a.low w.heap.size ∧ ∀ m, a ≠ .mark m := by
  unfold selRes at h
  split at h
  · cases h; exact ⟨rfl, rfl, rfl, by simp⟩
  · split at h
    · rename_i c _ cap buf closed s r tm hc
      have hlt := (Array.getElem?_eq_some_iff.1 hc).1
      split at h
      · cases h
        refine ⟨rfl, rfl, by simp [World.setChan], fun a ha => ?_⟩
        simp only [List.mem_toArray, List.mem_cons, List.not_mem_nil, or_false] at ha
        rcases ha with rfl | rfl <;> exact ⟨rfl, hlt, by simp⟩
      · split at h
        · cases h
          refine ⟨rfl, rfl, rfl, fun a ha => ?_⟩
          simp only [List.mem_toArray, List.mem_cons, List.not_mem_nil, or_false] at ha
          subst ha; exact ⟨rfl, hlt, by simp⟩
        · cases h; exact ⟨rfl, rfl, rfl, by simp⟩
    · cases h
  · cases h

section
variable {P : Program} {fr : Frame} {cs : List Frame} {w w₁ : World} {es : Array Event} {v z : Value}

theorem lone_sel {x : Value} {w₂ : World} {acts : Array MemAct} (h : stepG P true (Gor fr cs) w = .comm (Gor fr cs) #[⟨v, none, z⟩] false .select w₁ es) (hr : selRes w₁ v z = some (x, w₂, acts)) :
    step P (lone fr cs w) = .next (lone (fr.finish x) cs w₂) := by
  unfold selRes at hr
  split at hr
  · cases hr; exact step_lone_select_recv_nil (P := P) (fr := fr) (cs := cs) h
  · split at hr
    · rename_i c _ cap buf closed s r tm hc
      by_cases hb : 0 < buf.size
      · rw [if_pos hb] at hr; cases hr; exact step_lone_select_recv_buf (P := P) (fr := fr) (cs := cs) h hc hb
      · rw [if_neg hb] at hr
        have hb' : buf = #[] := by
          rcases Nat.eq_zero_or_pos buf.size with e | e
          · exact Array.eq_empty_of_size_eq_zero e
          · exact absurd e hb
        subst hb'
        split at hr
        · rename_i hcl; subst hcl; cases hr; exact step_lone_select_recv_shut (P := P) (fr := fr) (cs := cs) h hc
        · rename_i hcl
          have hcl' : closed = false := by simpa using hcl
          subst hcl'
          cases hr
          have hp := partners_alone (c := c) true
          show step P (solo (G fr cs) w) = .next (solo (G (fr.finish _) cs) _)
          have h' : stepG P true (G fr cs) w = .comm (G fr cs) #[rcase c z] false .select w₁ es := h
          rw [step, stepT_solo rfl]
          simp [runT, solo, G, Array.swapAt!, Array.swapAt, h', GStep.es, communicate, ways, rcase, hc, hp, Goroutine.finishComm, commResult] at h' ⊢
    · cases hr
  · cases hr

theorem lone_sel_none (h : stepG P true (Gor fr cs) w = .comm (Gor fr cs) #[⟨v, none, z⟩] false .select w₁ es) (hr : selRes w₁ v z = none) :
    ∃ o w₂, step P (lone fr cs w) = .ended o w₂ := by
  show ∃ o w₂, step P (solo (G fr cs) w) = .ended o w₂
  have h' : stepG P true (G fr cs) w = .comm (G fr cs) #[⟨v, none, z⟩] false .select w₁ es := h
  rw [step, stepT_solo rfl]
  simp only [runT, solo, G, Array.swapAt!, Array.swapAt] at h' ⊢
  cases v with
  | chan o =>
    cases o with
    | none => cases hr
    | some c =>
      simp only [selRes] at hr
      cases hc : w₁.heap[c]? with
      | none => simp [h', communicate, hc]
      | some o =>
        rw [hc] at hr
        cases o with
        | chan cap buf closed s r tm =>
          exfalso
          by_cases hb : 0 < buf.size
          · simp only [if_pos hb] at hr; cases hr
          · simp only [if_neg hb] at hr
            cases closed <;> simp at hr
        | _ => simp [h', communicate, hc]
  | _ => simp [h', communicate]

theorem partners_none {gs : Array Goroutine} {g : Goroutine} {t : Trace} {q : Nat → Nat} (hA : At P g w gs t q) (c : Nat) (b : Bool) : partners (gs.setIfInBounds 0 ph) c b = [] := by
  refine partners_nil fun j x hx => ?_
  rcases getElem?_stand gs 0 j x hx with ⟨_, rfl⟩ | ⟨hj, hx⟩
  · exact offersAt_ph c b
  · refine offersAt_of_not_blocked ?_ c b
    rcases (hA.lv.old j x (by omega) hx).status with e | e <;> rw [e] <;> simp

theorem crowd_sel {gs : Array Goroutine} {sl : Option (Nat × Nat)} {t : Trace} {q : Nat → Nat} (hA : At P (Gor fr cs) w gs t q) {x : Value} {w₂ : World} {acts : Array MemAct} (h : stepG P true (Gor fr cs) w = .comm (Gor fr cs) #[⟨v, none, z⟩] false .select w₁ es) (hr : selRes w₁ v z = some (x, w₂, acts)) :
    runT P (crowd gs w sl) 0 = (.next (crowd (gs.setIfInBounds 0 (Gor (fr.finish x) cs)) w₂ sl), MemOp.ofEvents 0 fr.fn fr.place es ++ acts.map fun a => { g := 0, fn := fr.fn, pos := fr.place, act := a }) := by
  have h' : stepG P (0 == 0) (Gor fr cs) w = .comm (Gor fr cs) #[⟨v, none, z⟩] false .select w₁ es := h
  unfold selRes at hr
  split at hr
  · cases hr
    have := crowd_default (sl := sl) hA.zero h' (fun cc hcc => by
      simp only [List.mem_toArray, List.mem_cons, List.not_mem_nil, or_false] at hcc
      subst hcc; exact ⟨rfl, rfl⟩)
    rw [this]
    simp [Goroutine.finishComm, commResult, Gor]
  · split at hr
    · rename_i c _ cap buf closed s r tm hc
      have hp := partners_none hA c true
      by_cases hb : 0 < buf.size
      · rw [if_pos hb] at hr; cases hr
        rw [crowd_recv_buf (sl := sl) hA.zero (show stepG P (0 == 0) (Gor fr cs) w = .comm (Gor fr cs) #[rcase c z] false .select w₁ es from h) hc hb hp]
        simp [Goroutine.finishComm, commResult, Gor, rcase]
      · rw [if_neg hb] at hr
        have hb' : buf = #[] := by
          rcases Nat.eq_zero_or_pos buf.size with e | e
          · exact Array.eq_empty_of_size_eq_zero e
          · exact absurd e hb
        subst hb'
        split at hr
        · rename_i hcl; subst hcl; cases hr
          rw [crowd_recv_closed (sl := sl) hA.zero (show stepG P (0 == 0) (Gor fr cs) w = .comm (Gor fr cs) #[rcase c z] false .select w₁ es from h) hc hp]
          simp [Goroutine.finishComm, commResult, Gor, rcase]
        · rename_i hcl
          have hcl' : closed = false := by simpa using hcl
          subst hcl'
          cases hr
          have := crowd_default (sl := sl) hA.zero h' (fun cc hcc => by
            simp only [List.mem_toArray, List.mem_cons, List.not_mem_nil, or_false] at hcc
            subst hcc; exact ⟨by simp [illMade, hc], by simp [ways, hc, hp]⟩)
          rw [this]
          simp [Goroutine.finishComm, commResult, Gor]
    · cases hr
  · cases hr

/-- Beside leavers such a select is one step of goroutine 0's own. -/
theorem sel_now {gs : Array Goroutine} {sl : Option (Nat × Nat)} {t : Trace} {q : Nat → Nat} (hA : At P (Gor fr cs) w gs t q) {x : Value} {w₂ : World} {acts : Array MemAct}
    (hgo : stepG P true (Gor fr cs) w = .comm (Gor fr cs) #[⟨v, none, z⟩] false .select w₁ es) (hgr : w.heap.size ≤ w₁.heap.size) (hev : ∀ e ∈ es, Ev w₁.heap.size e) (hsel : selRes w₁ v z = some (x, w₂, acts)) :
    ∃ (gs' : Array Goroutine) (t' : Trace), runT P (crowd gs w sl) 0 = (.next (crowd gs' w₂ sl), t') ∧ At P (Gor (fr.finish x) cs) w₂ gs' (t ++ t') q := by
  obtain ⟨_, _, hsz, hacts⟩ := selRes_facts hsel
  have hrunT := crowd_sel (sl := sl) hA hgo hsel
  have hlt : 0 < gs.size := (Array.getElem?_eq_some_iff.1 hA.zero).1
  have hop : ∀ op ∈ MemOp.ofEvents 0 fr.fn fr.place es ++ acts.map (fun a => ({ g := 0, fn := fr.fn, pos := fr.place, act := a } : MemOp)), op.g = 0 := by
    intro op hop
    rcases Array.mem_append.1 hop with h | h
    · obtain ⟨e, _, rfl⟩ := Go.Conc.mem_ofEvents h; rfl
    · obtain ⟨a, _, rfl⟩ := Array.mem_map.1 h; rfl
  refine ⟨gs.setIfInBounds 0 (Gor (fr.finish x) cs), _, hrunT, ⟨by simp [hlt], ⟨fun j y hj hy => ?_, fun j hj => ?_⟩, ?_⟩⟩
  · have hne : 0 ≠ j := by omega
    rw [Array.getElem?_setIfInBounds_ne hne] at hy
    rw [Deaf_other t (by omega) _ hop]
    exact hA.lv.old j y hj hy
  · rw [Deaf_other t (g' := 0) (by simp at hj; omega) _ hop]
    exact hA.lv.above j (by simpa using hj)
  · have p1 := (hA.past.mono hgr).own (fn := fr.fn) (pos := fr.place) hev
    rw [← Array.append_assoc, hsz]
    refine p1.app0 (fun op hop => by obtain ⟨a, _, rfl⟩ := Array.mem_map.1 hop; rfl) (fun _ _ _ _ x => x.elim) (Deaf_quiet (fun op hop d => ?_)) (fun op hop => by obtain ⟨a, ha, rfl⟩ := Array.mem_map.1 hop; exact (hacts a ha).2.1)
    obtain ⟨a, ha, rfl⟩ := Array.mem_map.1 hop
    have := (hacts a ha).2.2
    cases a <;> first | rfl | exact absurd rfl (this _)
end
end Lift
end Go.Proofs.Ytminoelijdpmeaa
