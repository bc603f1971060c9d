/-
  No cell of these rows narrows 'for every input' (looked for: loops, veiled, ifaces, maps, wideKeys, modest, calm, conditions, laid).
  DERIVED. THE GIVEN ROWS OF THIS SEAT. 6 by the template 'for every input the law returns true; each argument reads behind the call as it read before'; 0 by the template 'total and deterministic' (their statements: YthbdhcbdhcgkfaaTotals.lean).
  GIVEN WITH THE SEED: the statements are not yours to turn. If you find one false, say at which input.
  Laid BY PROGRAM, IN A SANDBOX (cutbox-rows.mjs): the forced cells as the released guide's own fill.sh prints them over the translation 17d86938b90578c3… (all of the seat's roots in one cut). By AI agents, Wed Nov 11 2026. No macro, syntax, notation, axiom, sorry.
-/
import Derived.Test.YthbdhcbdhcgkfaaChecked
import GoSem.Claim
import GoSem.ClaimJoined
import GoSem.ClaimMapViews
import Derived.JoinedTies
import Derived.KernelRfl
namespace Go.Proofs.Ythbdhcbdhcgkfaa
/- THE CELL 'sum', in the pinned program and in every row, IS THE sha256 OF THE DUMP (.gsa) THAT YthbdhcbdhcgkfaaProg.lean LOADS. Nothing in Lean hashes anything: it is a label: what it is worth is what the hold of that sum in a sandbox is worth. -/
noncomputable def Try.pinned : Pinned := { name := "ythbdhcbdhcgkfaa", sum := "17d86938b90578c3acbeccd161197ed1fae1c5fd249d5bee811acb6ea0054027", checked := Try.checked }
namespace Rows
def none {H : Type} : Left H := { results := [], args := [] }

/-- 'athanorlaw19.BinomPlans': WHATEVER THE INPUT: true; the input reads as it did. -/
def binomPlansSpec : ChangeSpec := { name := "binomPlans", fn := fun _ => fun
  | [d1, d2] => { results := [.lit (.bool true)], args := [d1, d2] }
  | _ => none }
def binomPlansRow : OpenClaim := { program := "ythbdhcbdhcgkfaa", sum := "17d86938b90578c3acbeccd161197ed1fae1c5fd249d5bee811acb6ea0054027", func := "athanor/athanorlaw19.BinomPlans", spec := "binomPlans", recurses := true, apart := false }
def BinomPlansSaid : Prop := binomPlansRow.holds Try.pinned (OpenSpec.ofChange binomPlansSpec)

/-- ITS FALSE NEIGHBOUR: 'it returns false'. Refute it at one input. -/
def binomPlansWrong : ChangeSpec := { name := "binomPlans", fn := fun _ => fun
  | [d1, d2] => { results := [.lit (.bool false)], args := [d1, d2] }
  | _ => none }
def BinomPlansWrongFalsely : Prop := binomPlansRow.holds Try.pinned (OpenSpec.ofChange binomPlansWrong)

/-- 'athanorlaw19.BinomWalks': WHATEVER THE INPUT: true; the input reads as it did. -/
def binomWalksSpec : ChangeSpec := { name := "binomWalks", fn := fun _ => fun
  | [d1, d2, d3] => { results := [.lit (.bool true)], args := [d1, d2, d3] }
  | _ => none }
def binomWalksRow : OpenClaim := { program := "ythbdhcbdhcgkfaa", sum := "17d86938b90578c3acbeccd161197ed1fae1c5fd249d5bee811acb6ea0054027", func := "athanor/athanorlaw19.BinomWalks", spec := "binomWalks", recurses := true, apart := false }
def BinomWalksSaid : Prop := binomWalksRow.holds Try.pinned (OpenSpec.ofChange binomWalksSpec)

/-- ITS FALSE NEIGHBOUR: 'it returns false'. Refute it at one input. -/
def binomWalksWrong : ChangeSpec := { name := "binomWalks", fn := fun _ => fun
  | [d1, d2, d3] => { results := [.lit (.bool false)], args := [d1, d2, d3] }
  | _ => none }
def BinomWalksWrongFalsely : Prop := binomWalksRow.holds Try.pinned (OpenSpec.ofChange binomWalksWrong)

/-- 'athanorlaw19.BinomMore': WHATEVER THE INPUT: true; the input reads as it did. -/
def binomMoreSpec : ChangeSpec := { name := "binomMore", fn := fun _ => fun
  | [d1, d2] => { results := [.lit (.bool true)], args := [d1, d2] }
  | _ => none }
def binomMoreRow : OpenClaim := { program := "ythbdhcbdhcgkfaa", sum := "17d86938b90578c3acbeccd161197ed1fae1c5fd249d5bee811acb6ea0054027", func := "athanor/athanorlaw19.BinomMore", spec := "binomMore", recurses := true, apart := false }
def BinomMoreSaid : Prop := binomMoreRow.holds Try.pinned (OpenSpec.ofChange binomMoreSpec)

/-- ITS FALSE NEIGHBOUR: 'it returns false'. Refute it at one input. -/
def binomMoreWrong : ChangeSpec := { name := "binomMore", fn := fun _ => fun
  | [d1, d2] => { results := [.lit (.bool false)], args := [d1, d2] }
  | _ => none }
def BinomMoreWrongFalsely : Prop := binomMoreRow.holds Try.pinned (OpenSpec.ofChange binomMoreWrong)

/-- 'athanorlaw19.BinomChoices': WHATEVER THE INPUT: true; the input reads as it did. -/
def binomChoicesSpec : ChangeSpec := { name := "binomChoices", fn := fun _ => fun
  | [d1, d2] => { results := [.lit (.bool true)], args := [d1, d2] }
  | _ => none }
def binomChoicesRow : OpenClaim := { program := "ythbdhcbdhcgkfaa", sum := "17d86938b90578c3acbeccd161197ed1fae1c5fd249d5bee811acb6ea0054027", func := "athanor/athanorlaw19.BinomChoices", spec := "binomChoices", recurses := true, apart := false }
def BinomChoicesSaid : Prop := binomChoicesRow.holds Try.pinned (OpenSpec.ofChange binomChoicesSpec)

/-- ITS FALSE NEIGHBOUR: 'it returns false'. Refute it at one input. -/
def binomChoicesWrong : ChangeSpec := { name := "binomChoices", fn := fun _ => fun
  | [d1, d2] => { results := [.lit (.bool false)], args := [d1, d2] }
  | _ => none }
def BinomChoicesWrongFalsely : Prop := binomChoicesRow.holds Try.pinned (OpenSpec.ofChange binomChoicesWrong)

/-- 'athanorlaw19.BinomReaches': WHATEVER THE INPUT: true; the input reads as it did. -/
def binomReachesSpec : ChangeSpec := { name := "binomReaches", fn := fun _ => fun
  | [d1, d2] => { results := [.lit (.bool true)], args := [d1, d2] }
  | _ => none }
def binomReachesRow : OpenClaim := { program := "ythbdhcbdhcgkfaa", sum := "17d86938b90578c3acbeccd161197ed1fae1c5fd249d5bee811acb6ea0054027", func := "athanor/athanorlaw19.BinomReaches", spec := "binomReaches", recurses := true, apart := false }
def BinomReachesSaid : Prop := binomReachesRow.holds Try.pinned (OpenSpec.ofChange binomReachesSpec)

/-- ITS FALSE NEIGHBOUR: 'it returns false'. Refute it at one input. -/
def binomReachesWrong : ChangeSpec := { name := "binomReaches", fn := fun _ => fun
  | [d1, d2] => { results := [.lit (.bool false)], args := [d1, d2] }
  | _ => none }
def BinomReachesWrongFalsely : Prop := binomReachesRow.holds Try.pinned (OpenSpec.ofChange binomReachesWrong)

/-- 'athanorlaw19.BinomLeast': WHATEVER THE INPUT: true; the input reads as it did. -/
def binomLeastSpec : ChangeSpec := { name := "binomLeast", fn := fun _ => fun
  | [d1, d2] => { results := [.lit (.bool true)], args := [d1, d2] }
  | _ => none }
def binomLeastRow : OpenClaim := { program := "ythbdhcbdhcgkfaa", sum := "17d86938b90578c3acbeccd161197ed1fae1c5fd249d5bee811acb6ea0054027", func := "athanor/athanorlaw19.BinomLeast", spec := "binomLeast", recurses := true, apart := false }
def BinomLeastSaid : Prop := binomLeastRow.holds Try.pinned (OpenSpec.ofChange binomLeastSpec)

/-- ITS FALSE NEIGHBOUR: 'it returns false'. Refute it at one input. -/
def binomLeastWrong : ChangeSpec := { name := "binomLeast", fn := fun _ => fun
  | [d1, d2] => { results := [.lit (.bool false)], args := [d1, d2] }
  | _ => none }
def BinomLeastWrongFalsely : Prop := binomLeastRow.holds Try.pinned (OpenSpec.ofChange binomLeastWrong)

/- THE SECOND FORM. 'bulk': how many values and letters a reading holds, each counted each time it is reached (what is shared counts as often as it is met; a slice's spare places count too). A statement '..UptoSaid' is the law's where the arguments, and the package variables that the reading takes, are together of bulk at most 1048576: NARROWER than '..Said'. Prove '..Said' where nothing that the law and all that it calls make is longer than what came in: it says more and counts as full. Else prove '..UptoSaid'. A law counts once. -/
mutual
def uptoBulk {H : Type} : DataW H → Nat
  | .lit (.string bytes) => bytes.length + 1
  | .lit _ => 1
  | .nil => 1
  | .ptr d => uptoBulk d + 1
  | .slice elems spare => uptoBulkAll elems + uptoBulkAll spare + 1
  | .agg parts => uptoBulkAll parts + 1
  | .iface _ d => uptoBulk d + 1
  | .map entries => uptoBulkEntries entries + 1
  | .held _ => 1
def uptoBulkAll {H : Type} : List (DataW H) → Nat
  | [] => 0
  | d :: r => uptoBulk d + uptoBulkAll r
def uptoBulkEntries {H : Type} : List (Lit × DataW H) → Nat
  | [] => 0
  | x :: r => uptoBulkEntry x + uptoBulkEntries r
def uptoBulkEntry {H : Type} : Lit × DataW H → Nat
  | (.string bytes, d) => bytes.length + uptoBulk d + 1
  | (_, d) => uptoBulk d + 1
 end
def uptoSmall : (H : Type) → List (DataW H) → Bool := fun _ ds => decide (uptoBulkAll ds ≤ 1048576)
def OpenSpec.upto (s : _root_.Go.ChangeSpec) : _root_.Go.OpenSpec := { _root_.Go.OpenSpec.ofChange s with cond := some uptoSmall }

/-- 'athanorlaw19.BinomPlans', WHERE WHAT IT READS IS OF BULK AT MOST 1048576: true; the input reads as it did. -/
def binomPlansUptoRow : OpenClaim := { program := "ythbdhcbdhcgkfaa", sum := "17d86938b90578c3acbeccd161197ed1fae1c5fd249d5bee811acb6ea0054027", func := "athanor/athanorlaw19.BinomPlans", spec := "binomPlans", recurses := true, apart := false, narrowed := true }
def BinomPlansUptoSaid : Prop := binomPlansUptoRow.holds Try.pinned (OpenSpec.upto binomPlansSpec)

/-- 'athanorlaw19.BinomWalks', WHERE WHAT IT READS IS OF BULK AT MOST 1048576: true; the input reads as it did. -/
def binomWalksUptoRow : OpenClaim := { program := "ythbdhcbdhcgkfaa", sum := "17d86938b90578c3acbeccd161197ed1fae1c5fd249d5bee811acb6ea0054027", func := "athanor/athanorlaw19.BinomWalks", spec := "binomWalks", recurses := true, apart := false, narrowed := true }
def BinomWalksUptoSaid : Prop := binomWalksUptoRow.holds Try.pinned (OpenSpec.upto binomWalksSpec)

/-- 'athanorlaw19.BinomMore', WHERE WHAT IT READS IS OF BULK AT MOST 1048576: true; the input reads as it did. -/
def binomMoreUptoRow : OpenClaim := { program := "ythbdhcbdhcgkfaa", sum := "17d86938b90578c3acbeccd161197ed1fae1c5fd249d5bee811acb6ea0054027", func := "athanor/athanorlaw19.BinomMore", spec := "binomMore", recurses := true, apart := false, narrowed := true }
def BinomMoreUptoSaid : Prop := binomMoreUptoRow.holds Try.pinned (OpenSpec.upto binomMoreSpec)

/-- 'athanorlaw19.BinomChoices', WHERE WHAT IT READS IS OF BULK AT MOST 1048576: true; the input reads as it did. -/
def binomChoicesUptoRow : OpenClaim := { program := "ythbdhcbdhcgkfaa", sum := "17d86938b90578c3acbeccd161197ed1fae1c5fd249d5bee811acb6ea0054027", func := "athanor/athanorlaw19.BinomChoices", spec := "binomChoices", recurses := true, apart := false, narrowed := true }
def BinomChoicesUptoSaid : Prop := binomChoicesUptoRow.holds Try.pinned (OpenSpec.upto binomChoicesSpec)

/-- 'athanorlaw19.BinomReaches', WHERE WHAT IT READS IS OF BULK AT MOST 1048576: true; the input reads as it did. -/
def binomReachesUptoRow : OpenClaim := { program := "ythbdhcbdhcgkfaa", sum := "17d86938b90578c3acbeccd161197ed1fae1c5fd249d5bee811acb6ea0054027", func := "athanor/athanorlaw19.BinomReaches", spec := "binomReaches", recurses := true, apart := false, narrowed := true }
def BinomReachesUptoSaid : Prop := binomReachesUptoRow.holds Try.pinned (OpenSpec.upto binomReachesSpec)

/-- 'athanorlaw19.BinomLeast', WHERE WHAT IT READS IS OF BULK AT MOST 1048576: true; the input reads as it did. -/
def binomLeastUptoRow : OpenClaim := { program := "ythbdhcbdhcgkfaa", sum := "17d86938b90578c3acbeccd161197ed1fae1c5fd249d5bee811acb6ea0054027", func := "athanor/athanorlaw19.BinomLeast", spec := "binomLeast", recurses := true, apart := false, narrowed := true }
def BinomLeastUptoSaid : Prop := binomLeastUptoRow.holds Try.pinned (OpenSpec.upto binomLeastSpec)

end Rows
end Go.Proofs.Ythbdhcbdhcgkfaa
