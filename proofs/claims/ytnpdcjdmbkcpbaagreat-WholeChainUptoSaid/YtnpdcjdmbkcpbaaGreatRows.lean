/-
  No cell of these rows narrows 'for every input' (looked for: loops, veiled, ifaces, maps, wideKeys, modest, calm, conditions, laid).
  DERIVED. THE GIVEN ROWS OF THIS SEAT. 3 by the template 'for every input the law returns true; each argument reads behind the call as it read before'; 0 by the template 'total and deterministic' (their statements: YtnpdcjdmbkcpbaaGreatTotals.lean).
  GIVEN WITH THE SEED: the statements are not yours to turn. If you find one false, say at which input.
  Laid BY PROGRAM, IN A SANDBOX (cutbox-rows.mjs): the forced cells as the released guide's own fill.sh prints them over the translation 394c3fd0efb7cc15… (all of the seat's roots in one cut). By AI agents, Wed Nov 11 2026. No macro, syntax, notation, axiom, sorry.
-/
import Derived.Test.YtnpdcjdmbkcpbaaGreatChecked
import GoSem.Claim
import GoSem.ClaimJoined
import GoSem.ClaimMapViews
import Derived.JoinedTies
import Derived.KernelRfl
namespace Go.Proofs.YtnpdcjdmbkcpbaaGreat
/- THE CELL 'sum', in the pinned program and in every row, IS THE sha256 OF THE DUMP (.gsa) THAT YtnpdcjdmbkcpbaaGreatProg.lean LOADS. Nothing in Lean hashes anything: it is a label: what it is worth is what the hold of that sum in a sandbox is worth. -/
noncomputable def Tryz.pinned : Pinned := { name := "ytnpdcjdmbkcpbaagreat", sum := "394c3fd0efb7cc157c1af0938c39b21e2b3495b9a09c9e326f402a541c7b722a", checked := Tryz.checked }
namespace Rows
def none {H : Type} : Left H := { results := [], args := [] }

/-- 'athanortop.WholeChain': WHATEVER THE INPUT: true; the input reads as it did. -/
def wholeChainSpec : ChangeSpec := { name := "wholeChain", fn := fun _ => fun
  | [d1, d2, d3] => { results := [.lit (.bool true)], args := [d1, d2, d3] }
  | _ => none }
def wholeChainRow : OpenClaim := { program := "ytnpdcjdmbkcpbaagreat", sum := "394c3fd0efb7cc157c1af0938c39b21e2b3495b9a09c9e326f402a541c7b722a", func := "athanor/athanortop.WholeChain", spec := "wholeChain", inPlace := ["slices.overlaps[int]", "slices.overlaps[athanor/arena.Block]", "slices.overlaps[athanor/table.entry[int, int]]", "slices.overlaps[[]athanor/table.entry[int, int]]"], unfollowed := true, recurses := true, named := ["math/bits.divideError", "math/bits.overflowError"], plainKeys := false, apart := false }
def WholeChainSaid : Prop := wholeChainRow.holds Tryz.pinned (OpenSpec.ofChange wholeChainSpec)

/-- ITS FALSE NEIGHBOUR: 'it returns false'. Refute it at one input. -/
def wholeChainWrong : ChangeSpec := { name := "wholeChain", fn := fun _ => fun
  | [d1, d2, d3] => { results := [.lit (.bool false)], args := [d1, d2, d3] }
  | _ => none }
def WholeChainWrongFalsely : Prop := wholeChainRow.holds Tryz.pinned (OpenSpec.ofChange wholeChainWrong)

/-- 'athanortop.WholeUnits': WHATEVER THE INPUT: true; the input reads as it did. -/
def wholeUnitsSpec : ChangeSpec := { name := "wholeUnits", fn := fun _ => fun
  | [d1, d2] => { results := [.lit (.bool true)], args := [d1, d2] }
  | _ => none }
def wholeUnitsRow : OpenClaim := { program := "ytnpdcjdmbkcpbaagreat", sum := "394c3fd0efb7cc157c1af0938c39b21e2b3495b9a09c9e326f402a541c7b722a", func := "athanor/athanortop.WholeUnits", spec := "wholeUnits", inPlace := ["slices.overlaps[int]", "slices.overlaps[athanor/arena.Block]", "slices.overlaps[athanor/table.entry[int, int]]", "slices.overlaps[[]athanor/table.entry[int, int]]"], unfollowed := true, recurses := true, named := ["math/bits.divideError", "math/bits.overflowError"], plainKeys := false, apart := false }
def WholeUnitsSaid : Prop := wholeUnitsRow.holds Tryz.pinned (OpenSpec.ofChange wholeUnitsSpec)

/-- ITS FALSE NEIGHBOUR: 'it returns false'. Refute it at one input. -/
def wholeUnitsWrong : ChangeSpec := { name := "wholeUnits", fn := fun _ => fun
  | [d1, d2] => { results := [.lit (.bool false)], args := [d1, d2] }
  | _ => none }
def WholeUnitsWrongFalsely : Prop := wholeUnitsRow.holds Tryz.pinned (OpenSpec.ofChange wholeUnitsWrong)

/-- 'athanortop.WholeWithin': WHATEVER THE INPUT: true; the input reads as it did. -/
def wholeWithinSpec : ChangeSpec := { name := "wholeWithin", fn := fun _ => fun
  | [d] => { results := [.lit (.bool true)], args := [d] }
  | _ => none }
def wholeWithinRow : OpenClaim := { program := "ytnpdcjdmbkcpbaagreat", sum := "394c3fd0efb7cc157c1af0938c39b21e2b3495b9a09c9e326f402a541c7b722a", func := "athanor/athanortop.WholeWithin", spec := "wholeWithin", inPlace := ["slices.overlaps[int]", "slices.overlaps[athanor/arena.Block]", "slices.overlaps[athanor/table.entry[int, int]]", "slices.overlaps[[]athanor/table.entry[int, int]]"], unfollowed := true, recurses := true, named := ["math/bits.divideError", "math/bits.overflowError"], plainKeys := false, apart := false }
def WholeWithinSaid : Prop := wholeWithinRow.holds Tryz.pinned (OpenSpec.ofChange wholeWithinSpec)

/-- ITS FALSE NEIGHBOUR: 'it returns false'. Refute it at one input. -/
def wholeWithinWrong : ChangeSpec := { name := "wholeWithin", fn := fun _ => fun
  | [d] => { results := [.lit (.bool false)], args := [d] }
  | _ => none }
def WholeWithinWrongFalsely : Prop := wholeWithinRow.holds Tryz.pinned (OpenSpec.ofChange wholeWithinWrong)

/- THE SECOND FORM. 'bulk': how many values and letters a reading holds, each counted each time it is reached (what is shared counts as often as it is met; a slice's spare places count too). A statement '..UptoSaid' is the law's where the arguments, and the package variables that the reading takes, are together of bulk at most 1048576: NARROWER than '..Said'. Prove '..Said' where nothing that the law and all that it calls make is longer than what came in: it says more and counts as full. Else prove '..UptoSaid'. A law counts once. -/
mutual
def uptoBulk {H : Type} : DataW H → Nat
  | .lit (.string bytes) => bytes.length + 1
  | .lit _ => 1
  | .nil => 1
  | .ptr d => uptoBulk d + 1
  | .slice elems spare => uptoBulkAll elems + uptoBulkAll spare + 1
  | .agg parts => uptoBulkAll parts + 1
  | .iface _ d => uptoBulk d + 1
  | .map entries => uptoBulkEntries entries + 1
  | .held _ => 1
def uptoBulkAll {H : Type} : List (DataW H) → Nat
  | [] => 0
  | d :: r => uptoBulk d + uptoBulkAll r
def uptoBulkEntries {H : Type} : List (Lit × DataW H) → Nat
  | [] => 0
  | x :: r => uptoBulkEntry x + uptoBulkEntries r
def uptoBulkEntry {H : Type} : Lit × DataW H → Nat
  | (.string bytes, d) => bytes.length + uptoBulk d + 1
  | (_, d) => uptoBulk d + 1
 end
def uptoSmall : (H : Type) → List (DataW H) → Bool := fun _ ds => decide (uptoBulkAll ds ≤ 1048576)
def OpenSpec.upto (s : _root_.Go.ChangeSpec) : _root_.Go.OpenSpec := { _root_.Go.OpenSpec.ofChange s with cond := some uptoSmall }

/-- 'athanortop.WholeChain', WHERE WHAT IT READS IS OF BULK AT MOST 1048576: true; the input reads as it did. -/
def wholeChainUptoRow : OpenClaim := { program := "ytnpdcjdmbkcpbaagreat", sum := "394c3fd0efb7cc157c1af0938c39b21e2b3495b9a09c9e326f402a541c7b722a", func := "athanor/athanortop.WholeChain", spec := "wholeChain", inPlace := ["slices.overlaps[int]", "slices.overlaps[athanor/arena.Block]", "slices.overlaps[athanor/table.entry[int, int]]", "slices.overlaps[[]athanor/table.entry[int, int]]"], unfollowed := true, recurses := true, named := ["math/bits.divideError", "math/bits.overflowError"], plainKeys := false, apart := false, narrowed := true }
def WholeChainUptoSaid : Prop := wholeChainUptoRow.holds Tryz.pinned (OpenSpec.upto wholeChainSpec)

/-- 'athanortop.WholeUnits', WHERE WHAT IT READS IS OF BULK AT MOST 1048576: true; the input reads as it did. -/
def wholeUnitsUptoRow : OpenClaim := { program := "ytnpdcjdmbkcpbaagreat", sum := "394c3fd0efb7cc157c1af0938c39b21e2b3495b9a09c9e326f402a541c7b722a", func := "athanor/athanortop.WholeUnits", spec := "wholeUnits", inPlace := ["slices.overlaps[int]", "slices.overlaps[athanor/arena.Block]", "slices.overlaps[athanor/table.entry[int, int]]", "slices.overlaps[[]athanor/table.entry[int, int]]"], unfollowed := true, recurses := true, named := ["math/bits.divideError", "math/bits.overflowError"], plainKeys := false, apart := false, narrowed := true }
def WholeUnitsUptoSaid : Prop := wholeUnitsUptoRow.holds Tryz.pinned (OpenSpec.upto wholeUnitsSpec)

/-- 'athanortop.WholeWithin', WHERE WHAT IT READS IS OF BULK AT MOST 1048576: true; the input reads as it did. -/
def wholeWithinUptoRow : OpenClaim := { program := "ytnpdcjdmbkcpbaagreat", sum := "394c3fd0efb7cc157c1af0938c39b21e2b3495b9a09c9e326f402a541c7b722a", func := "athanor/athanortop.WholeWithin", spec := "wholeWithin", inPlace := ["slices.overlaps[int]", "slices.overlaps[athanor/arena.Block]", "slices.overlaps[athanor/table.entry[int, int]]", "slices.overlaps[[]athanor/table.entry[int, int]]"], unfollowed := true, recurses := true, named := ["math/bits.divideError", "math/bits.overflowError"], plainKeys := false, apart := false, narrowed := true }
def WholeWithinUptoSaid : Prop := wholeWithinUptoRow.holds Tryz.pinned (OpenSpec.upto wholeWithinSpec)

end Rows
end Go.Proofs.YtnpdcjdmbkcpbaaGreat
