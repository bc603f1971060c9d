/-
  No cell of these rows narrows 'for every input' (looked for: loops, veiled, ifaces, maps, wideKeys, modest, calm, conditions, laid).
  DERIVED. THE GIVEN ROWS OF THIS SEAT. 4 by the template 'for every input the law returns true; each argument reads behind the call as it read before'; 0 by the template 'total and deterministic' (their statements: YtbjfojdhdjehpaaTotals.lean).
  GIVEN WITH THE SEED: the statements are not yours to turn. If you find one false, say at which input.
  Laid BY PROGRAM, IN A SANDBOX (cutbox-rows.mjs): the forced cells as the released guide's own fill.sh prints them over the translation 37584325bd2964f4… (all of the seat's roots in one cut). By AI agents, Wed Nov 11 2026. No macro, syntax, notation, axiom, sorry.
-/
import Derived.Test.YtbjfojdhdjehpaaChecked
import GoSem.Claim
import GoSem.ClaimJoined
import GoSem.ClaimMapViews
import Derived.JoinedTies
import Derived.KernelRfl
namespace Go.Proofs.Ytbjfojdhdjehpaa
/- THE CELL 'sum', in the pinned program and in every row, IS THE sha256 OF THE DUMP (.gsa) THAT YtbjfojdhdjehpaaProg.lean LOADS. Nothing in Lean hashes anything: it is a label: what it is worth is what the hold of that sum in a sandbox is worth. -/
noncomputable def Try.pinned : Pinned := { name := "ytbjfojdhdjehpaa", sum := "37584325bd2964f4aaa4c84296c4d23c262875e36f2bb23db4809d72c0eb0ae1", checked := Try.checked }
namespace Rows
def none {H : Type} : Left H := { results := [], args := [] }

/-- 'athanorlaw16.TableCounts': WHATEVER THE INPUT: true; the input reads as it did. -/
def tableCountsSpec : ChangeSpec := { name := "tableCounts", fn := fun _ => fun
  | [d] => { results := [.lit (.bool true)], args := [d] }
  | _ => none }
def tableCountsRow : OpenClaim := { program := "ytbjfojdhdjehpaa", sum := "37584325bd2964f4aaa4c84296c4d23c262875e36f2bb23db4809d72c0eb0ae1", func := "athanor/athanorlaw16.TableCounts", spec := "tableCounts", inPlace := ["slices.overlaps[athanor/table.entry[int, string]]", "slices.overlaps[[]athanor/table.entry[int, string]]", "slices.overlaps[athanor/table.entry[string, int]]", "slices.overlaps[[]athanor/table.entry[string, int]]", "slices.overlaps[athanor/table.entry[int, int]]", "slices.overlaps[[]athanor/table.entry[int, int]]"], unfollowed := true, recurses := true, apart := false }
def TableCountsSaid : Prop := tableCountsRow.holds Try.pinned (OpenSpec.ofChange tableCountsSpec)

/-- ITS FALSE NEIGHBOUR: 'it returns false'. Refute it at one input. -/
def tableCountsWrong : ChangeSpec := { name := "tableCounts", fn := fun _ => fun
  | [d] => { results := [.lit (.bool false)], args := [d] }
  | _ => none }
def TableCountsWrongFalsely : Prop := tableCountsRow.holds Try.pinned (OpenSpec.ofChange tableCountsWrong)

/-- 'athanorlaw16.TableRises': WHATEVER THE INPUT: true; the input reads as it did. -/
def tableRisesSpec : ChangeSpec := { name := "tableRises", fn := fun _ => fun
  | [d] => { results := [.lit (.bool true)], args := [d] }
  | _ => none }
def tableRisesRow : OpenClaim := { program := "ytbjfojdhdjehpaa", sum := "37584325bd2964f4aaa4c84296c4d23c262875e36f2bb23db4809d72c0eb0ae1", func := "athanor/athanorlaw16.TableRises", spec := "tableRises", inPlace := ["slices.overlaps[athanor/table.entry[int, string]]", "slices.overlaps[[]athanor/table.entry[int, string]]", "slices.overlaps[athanor/table.entry[string, int]]", "slices.overlaps[[]athanor/table.entry[string, int]]"], unfollowed := true, recurses := true, apart := false }
def TableRisesSaid : Prop := tableRisesRow.holds Try.pinned (OpenSpec.ofChange tableRisesSpec)

/-- ITS FALSE NEIGHBOUR: 'it returns false'. Refute it at one input. -/
def tableRisesWrong : ChangeSpec := { name := "tableRises", fn := fun _ => fun
  | [d] => { results := [.lit (.bool false)], args := [d] }
  | _ => none }
def TableRisesWrongFalsely : Prop := tableRisesRow.holds Try.pinned (OpenSpec.ofChange tableRisesWrong)

/-- 'athanorlaw16.TablePlays': WHATEVER THE INPUT: true; the input reads as it did. -/
def tablePlaysSpec : ChangeSpec := { name := "tablePlays", fn := fun _ => fun
  | [d] => { results := [.lit (.bool true)], args := [d] }
  | _ => none }
def tablePlaysRow : OpenClaim := { program := "ytbjfojdhdjehpaa", sum := "37584325bd2964f4aaa4c84296c4d23c262875e36f2bb23db4809d72c0eb0ae1", func := "athanor/athanorlaw16.TablePlays", spec := "tablePlays", inPlace := ["slices.overlaps[athanor/table.entry[int, string]]", "slices.overlaps[[]athanor/table.entry[int, string]]", "slices.overlaps[athanor/table.entry[string, int]]", "slices.overlaps[[]athanor/table.entry[string, int]]"], unfollowed := true, recurses := true, apart := false }
def TablePlaysSaid : Prop := tablePlaysRow.holds Try.pinned (OpenSpec.ofChange tablePlaysSpec)

/-- ITS FALSE NEIGHBOUR: 'it returns false'. Refute it at one input. -/
def tablePlaysWrong : ChangeSpec := { name := "tablePlays", fn := fun _ => fun
  | [d] => { results := [.lit (.bool false)], args := [d] }
  | _ => none }
def TablePlaysWrongFalsely : Prop := tablePlaysRow.holds Try.pinned (OpenSpec.ofChange tablePlaysWrong)

/-- 'athanorlaw16.TableCopies': WHATEVER THE INPUT: true; the input reads as it did. -/
def tableCopiesSpec : ChangeSpec := { name := "tableCopies", fn := fun _ => fun
  | [d1, d2, d3] => { results := [.lit (.bool true)], args := [d1, d2, d3] }
  | _ => none }
def tableCopiesRow : OpenClaim := { program := "ytbjfojdhdjehpaa", sum := "37584325bd2964f4aaa4c84296c4d23c262875e36f2bb23db4809d72c0eb0ae1", func := "athanor/athanorlaw16.TableCopies", spec := "tableCopies", inPlace := ["slices.overlaps[athanor/table.entry[int, string]]", "slices.overlaps[[]athanor/table.entry[int, string]]", "slices.overlaps[athanor/table.entry[string, int]]", "slices.overlaps[[]athanor/table.entry[string, int]]"], unfollowed := true, recurses := true, apart := false }
def TableCopiesSaid : Prop := tableCopiesRow.holds Try.pinned (OpenSpec.ofChange tableCopiesSpec)

/-- ITS FALSE NEIGHBOUR: 'it returns false'. Refute it at one input. -/
def tableCopiesWrong : ChangeSpec := { name := "tableCopies", fn := fun _ => fun
  | [d1, d2, d3] => { results := [.lit (.bool false)], args := [d1, d2, d3] }
  | _ => none }
def TableCopiesWrongFalsely : Prop := tableCopiesRow.holds Try.pinned (OpenSpec.ofChange tableCopiesWrong)

/- THE SECOND FORM. 'bulk': how many values and letters a reading holds, each counted each time it is reached (what is shared counts as often as it is met; a slice's spare places count too). A statement '..UptoSaid' is the law's where the arguments, and the package variables that the reading takes, are together of bulk at most 1048576: NARROWER than '..Said'. Prove '..Said' where nothing that the law and all that it calls make is longer than what came in: it says more and counts as full. Else prove '..UptoSaid'. A law counts once. -/
mutual
def uptoBulk {H : Type} : DataW H → Nat
  | .lit (.string bytes) => bytes.length + 1
  | .lit _ => 1
  | .nil => 1
  | .ptr d => uptoBulk d + 1
  | .slice elems spare => uptoBulkAll elems + uptoBulkAll spare + 1
  | .agg parts => uptoBulkAll parts + 1
  | .iface _ d => uptoBulk d + 1
  | .map entries => uptoBulkEntries entries + 1
  | .held _ => 1
def uptoBulkAll {H : Type} : List (DataW H) → Nat
  | [] => 0
  | d :: r => uptoBulk d + uptoBulkAll r
def uptoBulkEntries {H : Type} : List (Lit × DataW H) → Nat
  | [] => 0
  | x :: r => uptoBulkEntry x + uptoBulkEntries r
def uptoBulkEntry {H : Type} : Lit × DataW H → Nat
  | (.string bytes, d) => bytes.length + uptoBulk d + 1
  | (_, d) => uptoBulk d + 1
 end
def uptoSmall : (H : Type) → List (DataW H) → Bool := fun _ ds => decide (uptoBulkAll ds ≤ 1048576)
def OpenSpec.upto (s : _root_.Go.ChangeSpec) : _root_.Go.OpenSpec := { _root_.Go.OpenSpec.ofChange s with cond := some uptoSmall }

/-- 'athanorlaw16.TableCounts', WHERE WHAT IT READS IS OF BULK AT MOST 1048576: true; the input reads as it did. -/
def tableCountsUptoRow : OpenClaim := { program := "ytbjfojdhdjehpaa", sum := "37584325bd2964f4aaa4c84296c4d23c262875e36f2bb23db4809d72c0eb0ae1", func := "athanor/athanorlaw16.TableCounts", spec := "tableCounts", inPlace := ["slices.overlaps[athanor/table.entry[int, string]]", "slices.overlaps[[]athanor/table.entry[int, string]]", "slices.overlaps[athanor/table.entry[string, int]]", "slices.overlaps[[]athanor/table.entry[string, int]]", "slices.overlaps[athanor/table.entry[int, int]]", "slices.overlaps[[]athanor/table.entry[int, int]]"], unfollowed := true, recurses := true, apart := false, narrowed := true }
def TableCountsUptoSaid : Prop := tableCountsUptoRow.holds Try.pinned (OpenSpec.upto tableCountsSpec)

/-- 'athanorlaw16.TableRises', WHERE WHAT IT READS IS OF BULK AT MOST 1048576: true; the input reads as it did. -/
def tableRisesUptoRow : OpenClaim := { program := "ytbjfojdhdjehpaa", sum := "37584325bd2964f4aaa4c84296c4d23c262875e36f2bb23db4809d72c0eb0ae1", func := "athanor/athanorlaw16.TableRises", spec := "tableRises", inPlace := ["slices.overlaps[athanor/table.entry[int, string]]", "slices.overlaps[[]athanor/table.entry[int, string]]", "slices.overlaps[athanor/table.entry[string, int]]", "slices.overlaps[[]athanor/table.entry[string, int]]"], unfollowed := true, recurses := true, apart := false, narrowed := true }
def TableRisesUptoSaid : Prop := tableRisesUptoRow.holds Try.pinned (OpenSpec.upto tableRisesSpec)

/-- 'athanorlaw16.TablePlays', WHERE WHAT IT READS IS OF BULK AT MOST 1048576: true; the input reads as it did. -/
def tablePlaysUptoRow : OpenClaim := { program := "ytbjfojdhdjehpaa", sum := "37584325bd2964f4aaa4c84296c4d23c262875e36f2bb23db4809d72c0eb0ae1", func := "athanor/athanorlaw16.TablePlays", spec := "tablePlays", inPlace := ["slices.overlaps[athanor/table.entry[int, string]]", "slices.overlaps[[]athanor/table.entry[int, string]]", "slices.overlaps[athanor/table.entry[string, int]]", "slices.overlaps[[]athanor/table.entry[string, int]]"], unfollowed := true, recurses := true, apart := false, narrowed := true }
def TablePlaysUptoSaid : Prop := tablePlaysUptoRow.holds Try.pinned (OpenSpec.upto tablePlaysSpec)

/-- 'athanorlaw16.TableCopies', WHERE WHAT IT READS IS OF BULK AT MOST 1048576: true; the input reads as it did. -/
def tableCopiesUptoRow : OpenClaim := { program := "ytbjfojdhdjehpaa", sum := "37584325bd2964f4aaa4c84296c4d23c262875e36f2bb23db4809d72c0eb0ae1", func := "athanor/athanorlaw16.TableCopies", spec := "tableCopies", inPlace := ["slices.overlaps[athanor/table.entry[int, string]]", "slices.overlaps[[]athanor/table.entry[int, string]]", "slices.overlaps[athanor/table.entry[string, int]]", "slices.overlaps[[]athanor/table.entry[string, int]]"], unfollowed := true, recurses := true, apart := false, narrowed := true }
def TableCopiesUptoSaid : Prop := tableCopiesUptoRow.holds Try.pinned (OpenSpec.upto tableCopiesSpec)

end Rows
end Go.Proofs.Ytbjfojdhdjehpaa
