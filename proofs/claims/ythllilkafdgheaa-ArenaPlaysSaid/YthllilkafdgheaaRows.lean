/-
  No cell of these rows narrows 'for every input' (looked for: loops, veiled, ifaces, maps, wideKeys, modest, calm, conditions, laid).
  DERIVED. THE GIVEN ROWS OF THIS SEAT. 5 by the template 'for every input the law returns true; each argument reads behind the call as it read before'; 0 by the template 'total and deterministic' (their statements: YthllilkafdgheaaTotals.lean).
  GIVEN WITH THE SEED: the statements are not yours to turn. If you find one false, say at which input.
  Laid BY PROGRAM, IN A SANDBOX (cutbox-rows.mjs): the forced cells as the released guide's own fill.sh prints them over the translation b21b027493690874… (all of the seat's roots in one cut). By AI agents, Wed Nov 11 2026. No macro, syntax, notation, axiom, sorry.
-/
import Derived.Test.YthllilkafdgheaaChecked
import GoSem.Claim
import GoSem.ClaimJoined
import GoSem.ClaimMapViews
import Derived.JoinedTies
import Derived.KernelRfl
namespace Go.Proofs.Ythllilkafdgheaa
/- THE CELL 'sum', in the pinned program and in every row, IS THE sha256 OF THE DUMP (.gsa) THAT YthllilkafdgheaaProg.lean LOADS. Nothing in Lean hashes anything: it is a label: what it is worth is what the hold of that sum in a sandbox is worth. -/
noncomputable def Try.pinned : Pinned := { name := "ythllilkafdgheaa", sum := "b21b0274936908748cfb884d45840ae067a6b7f6aed09c002152b7291c2d35b2", checked := Try.checked }
namespace Rows
def none {H : Type} : Left H := { results := [], args := [] }

/-- 'athanorlaw15.ArenaKeeps': WHATEVER THE INPUT: true; the input reads as it did. -/
def arenaKeepsSpec : ChangeSpec := { name := "arenaKeeps", fn := fun _ => fun
  | [d1, d2, d3] => { results := [.lit (.bool true)], args := [d1, d2, d3] }
  | _ => none }
def arenaKeepsRow : OpenClaim := { program := "ythllilkafdgheaa", sum := "b21b0274936908748cfb884d45840ae067a6b7f6aed09c002152b7291c2d35b2", func := "athanor/athanorlaw15.ArenaKeeps", spec := "arenaKeeps", inPlace := ["slices.overlaps[athanor/arena.Block]"], unfollowed := true, recurses := true, apart := false }
def ArenaKeepsSaid : Prop := arenaKeepsRow.holds Try.pinned (OpenSpec.ofChange arenaKeepsSpec)

/-- ITS FALSE NEIGHBOUR: 'it returns false'. Refute it at one input. -/
def arenaKeepsWrong : ChangeSpec := { name := "arenaKeeps", fn := fun _ => fun
  | [d1, d2, d3] => { results := [.lit (.bool false)], args := [d1, d2, d3] }
  | _ => none }
def ArenaKeepsWrongFalsely : Prop := arenaKeepsRow.holds Try.pinned (OpenSpec.ofChange arenaKeepsWrong)

/-- 'athanorlaw15.ArenaFirst': WHATEVER THE INPUT: true; the input reads as it did. -/
def arenaFirstSpec : ChangeSpec := { name := "arenaFirst", fn := fun _ => fun
  | [d1, d2, d3] => { results := [.lit (.bool true)], args := [d1, d2, d3] }
  | _ => none }
def arenaFirstRow : OpenClaim := { program := "ythllilkafdgheaa", sum := "b21b0274936908748cfb884d45840ae067a6b7f6aed09c002152b7291c2d35b2", func := "athanor/athanorlaw15.ArenaFirst", spec := "arenaFirst", inPlace := ["slices.overlaps[athanor/arena.Block]"], unfollowed := true, recurses := true, apart := false }
def ArenaFirstSaid : Prop := arenaFirstRow.holds Try.pinned (OpenSpec.ofChange arenaFirstSpec)

/-- ITS FALSE NEIGHBOUR: 'it returns false'. Refute it at one input. -/
def arenaFirstWrong : ChangeSpec := { name := "arenaFirst", fn := fun _ => fun
  | [d1, d2, d3] => { results := [.lit (.bool false)], args := [d1, d2, d3] }
  | _ => none }
def ArenaFirstWrongFalsely : Prop := arenaFirstRow.holds Try.pinned (OpenSpec.ofChange arenaFirstWrong)

/-- 'athanorlaw15.ArenaNew': WHATEVER THE INPUT: true; the input reads as it did. -/
def arenaNewSpec : ChangeSpec := { name := "arenaNew", fn := fun _ => fun
  | [d1, d2] => { results := [.lit (.bool true)], args := [d1, d2] }
  | _ => none }
def arenaNewRow : OpenClaim := { program := "ythllilkafdgheaa", sum := "b21b0274936908748cfb884d45840ae067a6b7f6aed09c002152b7291c2d35b2", func := "athanor/athanorlaw15.ArenaNew", spec := "arenaNew", inPlace := ["slices.overlaps[athanor/arena.Block]"], unfollowed := true, recurses := true, apart := false }
def ArenaNewSaid : Prop := arenaNewRow.holds Try.pinned (OpenSpec.ofChange arenaNewSpec)

/-- ITS FALSE NEIGHBOUR: 'it returns false'. Refute it at one input. -/
def arenaNewWrong : ChangeSpec := { name := "arenaNew", fn := fun _ => fun
  | [d1, d2] => { results := [.lit (.bool false)], args := [d1, d2] }
  | _ => none }
def ArenaNewWrongFalsely : Prop := arenaNewRow.holds Try.pinned (OpenSpec.ofChange arenaNewWrong)

/-- 'athanorlaw15.ArenaBounds': WHATEVER THE INPUT: true; the input reads as it did. -/
def arenaBoundsSpec : ChangeSpec := { name := "arenaBounds", fn := fun _ => fun
  | [d1, d2] => { results := [.lit (.bool true)], args := [d1, d2] }
  | _ => none }
def arenaBoundsRow : OpenClaim := { program := "ythllilkafdgheaa", sum := "b21b0274936908748cfb884d45840ae067a6b7f6aed09c002152b7291c2d35b2", func := "athanor/athanorlaw15.ArenaBounds", spec := "arenaBounds", inPlace := ["slices.overlaps[athanor/arena.Block]"], unfollowed := true, recurses := true, apart := false }
def ArenaBoundsSaid : Prop := arenaBoundsRow.holds Try.pinned (OpenSpec.ofChange arenaBoundsSpec)

/-- ITS FALSE NEIGHBOUR: 'it returns false'. Refute it at one input. -/
def arenaBoundsWrong : ChangeSpec := { name := "arenaBounds", fn := fun _ => fun
  | [d1, d2] => { results := [.lit (.bool false)], args := [d1, d2] }
  | _ => none }
def ArenaBoundsWrongFalsely : Prop := arenaBoundsRow.holds Try.pinned (OpenSpec.ofChange arenaBoundsWrong)

/-- 'athanorlaw15.ArenaPlays': WHATEVER THE INPUT: true; the input reads as it did. -/
def arenaPlaysSpec : ChangeSpec := { name := "arenaPlays", fn := fun _ => fun
  | [d1, d2] => { results := [.lit (.bool true)], args := [d1, d2] }
  | _ => none }
def arenaPlaysRow : OpenClaim := { program := "ythllilkafdgheaa", sum := "b21b0274936908748cfb884d45840ae067a6b7f6aed09c002152b7291c2d35b2", func := "athanor/athanorlaw15.ArenaPlays", spec := "arenaPlays", inPlace := ["slices.overlaps[athanor/arena.Block]"], unfollowed := true, recurses := true, apart := false }
def ArenaPlaysSaid : Prop := arenaPlaysRow.holds Try.pinned (OpenSpec.ofChange arenaPlaysSpec)

/-- ITS FALSE NEIGHBOUR: 'it returns false'. Refute it at one input. -/
def arenaPlaysWrong : ChangeSpec := { name := "arenaPlays", fn := fun _ => fun
  | [d1, d2] => { results := [.lit (.bool false)], args := [d1, d2] }
  | _ => none }
def ArenaPlaysWrongFalsely : Prop := arenaPlaysRow.holds Try.pinned (OpenSpec.ofChange arenaPlaysWrong)

/- THE SECOND FORM. 'bulk': how many values and letters a reading holds, each counted each time it is reached (what is shared counts as often as it is met; a slice's spare places count too). A statement '..UptoSaid' is the law's where the arguments, and the package variables that the reading takes, are together of bulk at most 1048576: NARROWER than '..Said'. Prove '..Said' where nothing that the law and all that it calls make is longer than what came in: it says more and counts as full. Else prove '..UptoSaid'. A law counts once. -/
mutual
def uptoBulk {H : Type} : DataW H → Nat
  | .lit (.string bytes) => bytes.length + 1
  | .lit _ => 1
  | .nil => 1
  | .ptr d => uptoBulk d + 1
  | .slice elems spare => uptoBulkAll elems + uptoBulkAll spare + 1
  | .agg parts => uptoBulkAll parts + 1
  | .iface _ d => uptoBulk d + 1
  | .map entries => uptoBulkEntries entries + 1
  | .held _ => 1
def uptoBulkAll {H : Type} : List (DataW H) → Nat
  | [] => 0
  | d :: r => uptoBulk d + uptoBulkAll r
def uptoBulkEntries {H : Type} : List (Lit × DataW H) → Nat
  | [] => 0
  | x :: r => uptoBulkEntry x + uptoBulkEntries r
def uptoBulkEntry {H : Type} : Lit × DataW H → Nat
  | (.string bytes, d) => bytes.length + uptoBulk d + 1
  | (_, d) => uptoBulk d + 1
 end
def uptoSmall : (H : Type) → List (DataW H) → Bool := fun _ ds => decide (uptoBulkAll ds ≤ 1048576)
def OpenSpec.upto (s : _root_.Go.ChangeSpec) : _root_.Go.OpenSpec := { _root_.Go.OpenSpec.ofChange s with cond := some uptoSmall }

/-- 'athanorlaw15.ArenaKeeps', WHERE WHAT IT READS IS OF BULK AT MOST 1048576: true; the input reads as it did. -/
def arenaKeepsUptoRow : OpenClaim := { program := "ythllilkafdgheaa", sum := "b21b0274936908748cfb884d45840ae067a6b7f6aed09c002152b7291c2d35b2", func := "athanor/athanorlaw15.ArenaKeeps", spec := "arenaKeeps", inPlace := ["slices.overlaps[athanor/arena.Block]"], unfollowed := true, recurses := true, apart := false, narrowed := true }
def ArenaKeepsUptoSaid : Prop := arenaKeepsUptoRow.holds Try.pinned (OpenSpec.upto arenaKeepsSpec)

/-- 'athanorlaw15.ArenaFirst', WHERE WHAT IT READS IS OF BULK AT MOST 1048576: true; the input reads as it did. -/
def arenaFirstUptoRow : OpenClaim := { program := "ythllilkafdgheaa", sum := "b21b0274936908748cfb884d45840ae067a6b7f6aed09c002152b7291c2d35b2", func := "athanor/athanorlaw15.ArenaFirst", spec := "arenaFirst", inPlace := ["slices.overlaps[athanor/arena.Block]"], unfollowed := true, recurses := true, apart := false, narrowed := true }
def ArenaFirstUptoSaid : Prop := arenaFirstUptoRow.holds Try.pinned (OpenSpec.upto arenaFirstSpec)

/-- 'athanorlaw15.ArenaNew', WHERE WHAT IT READS IS OF BULK AT MOST 1048576: true; the input reads as it did. -/
def arenaNewUptoRow : OpenClaim := { program := "ythllilkafdgheaa", sum := "b21b0274936908748cfb884d45840ae067a6b7f6aed09c002152b7291c2d35b2", func := "athanor/athanorlaw15.ArenaNew", spec := "arenaNew", inPlace := ["slices.overlaps[athanor/arena.Block]"], unfollowed := true, recurses := true, apart := false, narrowed := true }
def ArenaNewUptoSaid : Prop := arenaNewUptoRow.holds Try.pinned (OpenSpec.upto arenaNewSpec)

/-- 'athanorlaw15.ArenaBounds', WHERE WHAT IT READS IS OF BULK AT MOST 1048576: true; the input reads as it did. -/
def arenaBoundsUptoRow : OpenClaim := { program := "ythllilkafdgheaa", sum := "b21b0274936908748cfb884d45840ae067a6b7f6aed09c002152b7291c2d35b2", func := "athanor/athanorlaw15.ArenaBounds", spec := "arenaBounds", inPlace := ["slices.overlaps[athanor/arena.Block]"], unfollowed := true, recurses := true, apart := false, narrowed := true }
def ArenaBoundsUptoSaid : Prop := arenaBoundsUptoRow.holds Try.pinned (OpenSpec.upto arenaBoundsSpec)

/-- 'athanorlaw15.ArenaPlays', WHERE WHAT IT READS IS OF BULK AT MOST 1048576: true; the input reads as it did. -/
def arenaPlaysUptoRow : OpenClaim := { program := "ythllilkafdgheaa", sum := "b21b0274936908748cfb884d45840ae067a6b7f6aed09c002152b7291c2d35b2", func := "athanor/athanorlaw15.ArenaPlays", spec := "arenaPlays", inPlace := ["slices.overlaps[athanor/arena.Block]"], unfollowed := true, recurses := true, apart := false, narrowed := true }
def ArenaPlaysUptoSaid : Prop := arenaPlaysUptoRow.holds Try.pinned (OpenSpec.upto arenaPlaysSpec)

end Rows
end Go.Proofs.Ythllilkafdgheaa
