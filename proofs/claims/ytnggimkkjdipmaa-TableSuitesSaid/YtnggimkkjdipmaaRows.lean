/-
  No cell of these rows narrows 'for every input' (looked for: loops, veiled, ifaces, maps, wideKeys, modest, calm, conditions, laid).
  DERIVED. THE GIVEN ROWS OF THIS SEAT. 13 by the template 'for every input the law returns true; each argument reads behind the call as it read before'; 0 by the template 'total and deterministic' (their statements: YtnggimkkjdipmaaTotals.lean).
  GIVEN WITH THE SEED: the statements are not yours to turn. If you find one false, say at which input.
  Laid BY PROGRAM, IN A SANDBOX (cutbox-rows.mjs): the forced cells as the released guide's own fill.sh prints them over the translation 0c27558b7c619732… (all of the seat's roots in one cut). By AI agents, Wed Nov 11 2026. No macro, syntax, notation, axiom, sorry.
-/
import Derived.Test.YtnggimkkjdipmaaChecked
import GoSem.Claim
import GoSem.ClaimJoined
import GoSem.ClaimMapViews
import Derived.JoinedTies
import Derived.KernelRfl
namespace Go.Proofs.Ytnggimkkjdipmaa
/- THE CELL 'sum', in the pinned program and in every row, IS THE sha256 OF THE DUMP (.gsa) THAT YtnggimkkjdipmaaProg.lean LOADS. Nothing in Lean hashes anything: it is a label: what it is worth is what the hold of that sum in a sandbox is worth. -/
noncomputable def Try.pinned : Pinned := { name := "ytnggimkkjdipmaa", sum := "0c27558b7c619732196780c75f29cc35882e7cbdda23a2b27a4a3ad1c9b2649f", checked := Try.checked }
namespace Rows
def none {H : Type} : Left H := { results := [], args := [] }

/-- 'heptadlaw16.TableRuns': WHATEVER THE INPUT: true; the input reads as it did. -/
def tableRunsSpec : ChangeSpec := { name := "tableRuns", fn := fun _ => fun
  | [d1, d2, d3] => { results := [.lit (.bool true)], args := [d1, d2, d3] }
  | _ => none }
def tableRunsRow : OpenClaim := { program := "ytnggimkkjdipmaa", sum := "0c27558b7c619732196780c75f29cc35882e7cbdda23a2b27a4a3ad1c9b2649f", func := "heptad/heptadlaw16.TableRuns", spec := "tableRuns", unfollowed := true, recurses := true, plainKeys := false, apart := false }
def TableRunsSaid : Prop := tableRunsRow.holds Try.pinned (OpenSpec.ofChange tableRunsSpec)

/-- ITS FALSE NEIGHBOUR: 'it returns false'. Refute it at one input. -/
def tableRunsWrong : ChangeSpec := { name := "tableRuns", fn := fun _ => fun
  | [d1, d2, d3] => { results := [.lit (.bool false)], args := [d1, d2, d3] }
  | _ => none }
def TableRunsWrongFalsely : Prop := tableRunsRow.holds Try.pinned (OpenSpec.ofChange tableRunsWrong)

/-- 'heptadlaw16.TableJoins': WHATEVER THE INPUT: true; the input reads as it did. -/
def tableJoinsSpec : ChangeSpec := { name := "tableJoins", fn := fun _ => fun
  | [d1, d2, d3] => { results := [.lit (.bool true)], args := [d1, d2, d3] }
  | _ => none }
def tableJoinsRow : OpenClaim := { program := "ytnggimkkjdipmaa", sum := "0c27558b7c619732196780c75f29cc35882e7cbdda23a2b27a4a3ad1c9b2649f", func := "heptad/heptadlaw16.TableJoins", spec := "tableJoins", unfollowed := true, recurses := true, plainKeys := false, apart := false }
def TableJoinsSaid : Prop := tableJoinsRow.holds Try.pinned (OpenSpec.ofChange tableJoinsSpec)

/-- ITS FALSE NEIGHBOUR: 'it returns false'. Refute it at one input. -/
def tableJoinsWrong : ChangeSpec := { name := "tableJoins", fn := fun _ => fun
  | [d1, d2, d3] => { results := [.lit (.bool false)], args := [d1, d2, d3] }
  | _ => none }
def TableJoinsWrongFalsely : Prop := tableJoinsRow.holds Try.pinned (OpenSpec.ofChange tableJoinsWrong)

/-- 'heptadlaw16.TableDiffers': WHATEVER THE INPUT: true; the input reads as it did. -/
def tableDiffersSpec : ChangeSpec := { name := "tableDiffers", fn := fun _ => fun
  | [d] => { results := [.lit (.bool true)], args := [d] }
  | _ => none }
def tableDiffersRow : OpenClaim := { program := "ytnggimkkjdipmaa", sum := "0c27558b7c619732196780c75f29cc35882e7cbdda23a2b27a4a3ad1c9b2649f", func := "heptad/heptadlaw16.TableDiffers", spec := "tableDiffers", plainKeys := false, apart := false }
def TableDiffersSaid : Prop := tableDiffersRow.holds Try.pinned (OpenSpec.ofChange tableDiffersSpec)

/-- ITS FALSE NEIGHBOUR: 'it returns false'. Refute it at one input. -/
def tableDiffersWrong : ChangeSpec := { name := "tableDiffers", fn := fun _ => fun
  | [d] => { results := [.lit (.bool false)], args := [d] }
  | _ => none }
def TableDiffersWrongFalsely : Prop := tableDiffersRow.holds Try.pinned (OpenSpec.ofChange tableDiffersWrong)

/-- 'heptadlaw16.TablePasses': WHATEVER THE INPUT: true; the input reads as it did. -/
def tablePassesSpec : ChangeSpec := { name := "tablePasses", fn := fun _ => fun
  | [d1, d2, d3] => { results := [.lit (.bool true)], args := [d1, d2, d3] }
  | _ => none }
def tablePassesRow : OpenClaim := { program := "ytnggimkkjdipmaa", sum := "0c27558b7c619732196780c75f29cc35882e7cbdda23a2b27a4a3ad1c9b2649f", func := "heptad/heptadlaw16.TablePasses", spec := "tablePasses", unfollowed := true, recurses := true, plainKeys := false, apart := false }
def TablePassesSaid : Prop := tablePassesRow.holds Try.pinned (OpenSpec.ofChange tablePassesSpec)

/-- ITS FALSE NEIGHBOUR: 'it returns false'. Refute it at one input. -/
def tablePassesWrong : ChangeSpec := { name := "tablePasses", fn := fun _ => fun
  | [d1, d2, d3] => { results := [.lit (.bool false)], args := [d1, d2, d3] }
  | _ => none }
def TablePassesWrongFalsely : Prop := tablePassesRow.holds Try.pinned (OpenSpec.ofChange tablePassesWrong)

/-- 'heptadlaw16.TableShortest': WHATEVER THE INPUT: true; the input reads as it did. -/
def tableShortestSpec : ChangeSpec := { name := "tableShortest", fn := fun _ => fun
  | [d] => { results := [.lit (.bool true)], args := [d] }
  | _ => none }
def tableShortestRow : OpenClaim := { program := "ytnggimkkjdipmaa", sum := "0c27558b7c619732196780c75f29cc35882e7cbdda23a2b27a4a3ad1c9b2649f", func := "heptad/heptadlaw16.TableShortest", spec := "tableShortest", unfollowed := true, recurses := true, plainKeys := false, apart := false }
def TableShortestSaid : Prop := tableShortestRow.holds Try.pinned (OpenSpec.ofChange tableShortestSpec)

/-- ITS FALSE NEIGHBOUR: 'it returns false'. Refute it at one input. -/
def tableShortestWrong : ChangeSpec := { name := "tableShortest", fn := fun _ => fun
  | [d] => { results := [.lit (.bool false)], args := [d] }
  | _ => none }
def TableShortestWrongFalsely : Prop := tableShortestRow.holds Try.pinned (OpenSpec.ofChange tableShortestWrong)

/-- 'heptadlaw16.TableSame': WHATEVER THE INPUT: true; the input reads as it did. -/
def tableSameSpec : ChangeSpec := { name := "tableSame", fn := fun _ => fun
  | [d1, d2] => { results := [.lit (.bool true)], args := [d1, d2] }
  | _ => none }
def tableSameRow : OpenClaim := { program := "ytnggimkkjdipmaa", sum := "0c27558b7c619732196780c75f29cc35882e7cbdda23a2b27a4a3ad1c9b2649f", func := "heptad/heptadlaw16.TableSame", spec := "tableSame", unfollowed := true, recurses := true, plainKeys := false, apart := false }
def TableSameSaid : Prop := tableSameRow.holds Try.pinned (OpenSpec.ofChange tableSameSpec)

/-- ITS FALSE NEIGHBOUR: 'it returns false'. Refute it at one input. -/
def tableSameWrong : ChangeSpec := { name := "tableSame", fn := fun _ => fun
  | [d1, d2] => { results := [.lit (.bool false)], args := [d1, d2] }
  | _ => none }
def TableSameWrongFalsely : Prop := tableSameRow.holds Try.pinned (OpenSpec.ofChange tableSameWrong)

/-- 'heptadlaw16.TableReaches': WHATEVER THE INPUT: true; the input reads as it did. -/
def tableReachesSpec : ChangeSpec := { name := "tableReaches", fn := fun _ => fun
  | [d] => { results := [.lit (.bool true)], args := [d] }
  | _ => none }
def tableReachesRow : OpenClaim := { program := "ytnggimkkjdipmaa", sum := "0c27558b7c619732196780c75f29cc35882e7cbdda23a2b27a4a3ad1c9b2649f", func := "heptad/heptadlaw16.TableReaches", spec := "tableReaches", recurses := true, plainKeys := false, apart := false }
def TableReachesSaid : Prop := tableReachesRow.holds Try.pinned (OpenSpec.ofChange tableReachesSpec)

/-- ITS FALSE NEIGHBOUR: 'it returns false'. Refute it at one input. -/
def tableReachesWrong : ChangeSpec := { name := "tableReaches", fn := fun _ => fun
  | [d] => { results := [.lit (.bool false)], args := [d] }
  | _ => none }
def TableReachesWrongFalsely : Prop := tableReachesRow.holds Try.pinned (OpenSpec.ofChange tableReachesWrong)

/-- 'heptadlaw16.TableMutates': WHATEVER THE INPUT: true; the input reads as it did. -/
def tableMutatesSpec : ChangeSpec := { name := "tableMutates", fn := fun _ => fun
  | [d1, d2] => { results := [.lit (.bool true)], args := [d1, d2] }
  | _ => none }
def tableMutatesRow : OpenClaim := { program := "ytnggimkkjdipmaa", sum := "0c27558b7c619732196780c75f29cc35882e7cbdda23a2b27a4a3ad1c9b2649f", func := "heptad/heptadlaw16.TableMutates", spec := "tableMutates", unfollowed := true, recurses := true, plainKeys := false, apart := false }
def TableMutatesSaid : Prop := tableMutatesRow.holds Try.pinned (OpenSpec.ofChange tableMutatesSpec)

/-- ITS FALSE NEIGHBOUR: 'it returns false'. Refute it at one input. -/
def tableMutatesWrong : ChangeSpec := { name := "tableMutates", fn := fun _ => fun
  | [d1, d2] => { results := [.lit (.bool false)], args := [d1, d2] }
  | _ => none }
def TableMutatesWrongFalsely : Prop := tableMutatesRow.holds Try.pinned (OpenSpec.ofChange tableMutatesWrong)

/-- 'heptadlaw16.TableKeeps': WHATEVER THE INPUT: true; the input reads as it did. -/
def tableKeepsSpec : ChangeSpec := { name := "tableKeeps", fn := fun _ => fun
  | [d1, d2] => { results := [.lit (.bool true)], args := [d1, d2] }
  | _ => none }
def tableKeepsRow : OpenClaim := { program := "ytnggimkkjdipmaa", sum := "0c27558b7c619732196780c75f29cc35882e7cbdda23a2b27a4a3ad1c9b2649f", func := "heptad/heptadlaw16.TableKeeps", spec := "tableKeeps", unfollowed := true, recurses := true, plainKeys := false, apart := false }
def TableKeepsSaid : Prop := tableKeepsRow.holds Try.pinned (OpenSpec.ofChange tableKeepsSpec)

/-- ITS FALSE NEIGHBOUR: 'it returns false'. Refute it at one input. -/
def tableKeepsWrong : ChangeSpec := { name := "tableKeeps", fn := fun _ => fun
  | [d1, d2] => { results := [.lit (.bool false)], args := [d1, d2] }
  | _ => none }
def TableKeepsWrongFalsely : Prop := tableKeepsRow.holds Try.pinned (OpenSpec.ofChange tableKeepsWrong)

/-- 'heptadlaw16.TableLeast': WHATEVER THE INPUT: true; the input reads as it did. -/
def tableLeastSpec : ChangeSpec := { name := "tableLeast", fn := fun _ => fun
  | [d] => { results := [.lit (.bool true)], args := [d] }
  | _ => none }
def tableLeastRow : OpenClaim := { program := "ytnggimkkjdipmaa", sum := "0c27558b7c619732196780c75f29cc35882e7cbdda23a2b27a4a3ad1c9b2649f", func := "heptad/heptadlaw16.TableLeast", spec := "tableLeast", unfollowed := true, recurses := true, plainKeys := false, apart := false }
def TableLeastSaid : Prop := tableLeastRow.holds Try.pinned (OpenSpec.ofChange tableLeastSpec)

/-- ITS FALSE NEIGHBOUR: 'it returns false'. Refute it at one input. -/
def tableLeastWrong : ChangeSpec := { name := "tableLeast", fn := fun _ => fun
  | [d] => { results := [.lit (.bool false)], args := [d] }
  | _ => none }
def TableLeastWrongFalsely : Prop := tableLeastRow.holds Try.pinned (OpenSpec.ofChange tableLeastWrong)

/-- 'heptadlaw16.TableSuites': WHATEVER THE INPUT: true; the input reads as it did. -/
def tableSuitesSpec : ChangeSpec := { name := "tableSuites", fn := fun _ => fun
  | [d] => { results := [.lit (.bool true)], args := [d] }
  | _ => none }
def tableSuitesRow : OpenClaim := { program := "ytnggimkkjdipmaa", sum := "0c27558b7c619732196780c75f29cc35882e7cbdda23a2b27a4a3ad1c9b2649f", func := "heptad/heptadlaw16.TableSuites", spec := "tableSuites", unfollowed := true, recurses := true, plainKeys := false, apart := false }
def TableSuitesSaid : Prop := tableSuitesRow.holds Try.pinned (OpenSpec.ofChange tableSuitesSpec)

/-- ITS FALSE NEIGHBOUR: 'it returns false'. Refute it at one input. -/
def tableSuitesWrong : ChangeSpec := { name := "tableSuites", fn := fun _ => fun
  | [d] => { results := [.lit (.bool false)], args := [d] }
  | _ => none }
def TableSuitesWrongFalsely : Prop := tableSuitesRow.holds Try.pinned (OpenSpec.ofChange tableSuitesWrong)

/-- 'heptadlaw16.TableFinds': WHATEVER THE INPUT: true; the input reads as it did. -/
def tableFindsSpec : ChangeSpec := { name := "tableFinds", fn := fun _ => fun
  | [d1, d2] => { results := [.lit (.bool true)], args := [d1, d2] }
  | _ => none }
def tableFindsRow : OpenClaim := { program := "ytnggimkkjdipmaa", sum := "0c27558b7c619732196780c75f29cc35882e7cbdda23a2b27a4a3ad1c9b2649f", func := "heptad/heptadlaw16.TableFinds", spec := "tableFinds", unfollowed := true, recurses := true, plainKeys := false, apart := false }
def TableFindsSaid : Prop := tableFindsRow.holds Try.pinned (OpenSpec.ofChange tableFindsSpec)

/-- ITS FALSE NEIGHBOUR: 'it returns false'. Refute it at one input. -/
def tableFindsWrong : ChangeSpec := { name := "tableFinds", fn := fun _ => fun
  | [d1, d2] => { results := [.lit (.bool false)], args := [d1, d2] }
  | _ => none }
def TableFindsWrongFalsely : Prop := tableFindsRow.holds Try.pinned (OpenSpec.ofChange tableFindsWrong)

/-- 'heptadlaw16.TableHunts': WHATEVER THE INPUT: true; the input reads as it did. -/
def tableHuntsSpec : ChangeSpec := { name := "tableHunts", fn := fun _ => fun
  | [d1, d2] => { results := [.lit (.bool true)], args := [d1, d2] }
  | _ => none }
def tableHuntsRow : OpenClaim := { program := "ytnggimkkjdipmaa", sum := "0c27558b7c619732196780c75f29cc35882e7cbdda23a2b27a4a3ad1c9b2649f", func := "heptad/heptadlaw16.TableHunts", spec := "tableHunts", unfollowed := true, recurses := true, plainKeys := false, apart := false }
def TableHuntsSaid : Prop := tableHuntsRow.holds Try.pinned (OpenSpec.ofChange tableHuntsSpec)

/-- ITS FALSE NEIGHBOUR: 'it returns false'. Refute it at one input. -/
def tableHuntsWrong : ChangeSpec := { name := "tableHunts", fn := fun _ => fun
  | [d1, d2] => { results := [.lit (.bool false)], args := [d1, d2] }
  | _ => none }
def TableHuntsWrongFalsely : Prop := tableHuntsRow.holds Try.pinned (OpenSpec.ofChange tableHuntsWrong)

/- THE SECOND FORM. 'bulk': how many values and letters a reading holds, each counted each time it is reached (what is shared counts as often as it is met; a slice's spare places count too). A statement '..UptoSaid' is the law's where the arguments, and the package variables that the reading takes, are together of bulk at most 1048576: NARROWER than '..Said'. Prove '..Said' where nothing that the law and all that it calls make is longer than what came in: it says more and counts as full. Else prove '..UptoSaid'. A law counts once. -/
mutual
def uptoBulk {H : Type} : DataW H → Nat
  | .lit (.string bytes) => bytes.length + 1
  | .lit _ => 1
  | .nil => 1
  | .ptr d => uptoBulk d + 1
  | .slice elems spare => uptoBulkAll elems + uptoBulkAll spare + 1
  | .agg parts => uptoBulkAll parts + 1
  | .iface _ d => uptoBulk d + 1
  | .map entries => uptoBulkEntries entries + 1
  | .held _ => 1
def uptoBulkAll {H : Type} : List (DataW H) → Nat
  | [] => 0
  | d :: r => uptoBulk d + uptoBulkAll r
def uptoBulkEntries {H : Type} : List (Lit × DataW H) → Nat
  | [] => 0
  | x :: r => uptoBulkEntry x + uptoBulkEntries r
def uptoBulkEntry {H : Type} : Lit × DataW H → Nat
  | (.string bytes, d) => bytes.length + uptoBulk d + 1
  | (_, d) => uptoBulk d + 1
 end
def uptoSmall : (H : Type) → List (DataW H) → Bool := fun _ ds => decide (uptoBulkAll ds ≤ 1048576)
def OpenSpec.upto (s : _root_.Go.ChangeSpec) : _root_.Go.OpenSpec := { _root_.Go.OpenSpec.ofChange s with cond := some uptoSmall }

/-- 'heptadlaw16.TableRuns', WHERE WHAT IT READS IS OF BULK AT MOST 1048576: true; the input reads as it did. -/
def tableRunsUptoRow : OpenClaim := { program := "ytnggimkkjdipmaa", sum := "0c27558b7c619732196780c75f29cc35882e7cbdda23a2b27a4a3ad1c9b2649f", func := "heptad/heptadlaw16.TableRuns", spec := "tableRuns", unfollowed := true, recurses := true, plainKeys := false, apart := false, narrowed := true }
def TableRunsUptoSaid : Prop := tableRunsUptoRow.holds Try.pinned (OpenSpec.upto tableRunsSpec)

/-- 'heptadlaw16.TableJoins', WHERE WHAT IT READS IS OF BULK AT MOST 1048576: true; the input reads as it did. -/
def tableJoinsUptoRow : OpenClaim := { program := "ytnggimkkjdipmaa", sum := "0c27558b7c619732196780c75f29cc35882e7cbdda23a2b27a4a3ad1c9b2649f", func := "heptad/heptadlaw16.TableJoins", spec := "tableJoins", unfollowed := true, recurses := true, plainKeys := false, apart := false, narrowed := true }
def TableJoinsUptoSaid : Prop := tableJoinsUptoRow.holds Try.pinned (OpenSpec.upto tableJoinsSpec)

/-- 'heptadlaw16.TableDiffers', WHERE WHAT IT READS IS OF BULK AT MOST 1048576: true; the input reads as it did. -/
def tableDiffersUptoRow : OpenClaim := { program := "ytnggimkkjdipmaa", sum := "0c27558b7c619732196780c75f29cc35882e7cbdda23a2b27a4a3ad1c9b2649f", func := "heptad/heptadlaw16.TableDiffers", spec := "tableDiffers", plainKeys := false, apart := false, narrowed := true }
def TableDiffersUptoSaid : Prop := tableDiffersUptoRow.holds Try.pinned (OpenSpec.upto tableDiffersSpec)

/-- 'heptadlaw16.TablePasses', WHERE WHAT IT READS IS OF BULK AT MOST 1048576: true; the input reads as it did. -/
def tablePassesUptoRow : OpenClaim := { program := "ytnggimkkjdipmaa", sum := "0c27558b7c619732196780c75f29cc35882e7cbdda23a2b27a4a3ad1c9b2649f", func := "heptad/heptadlaw16.TablePasses", spec := "tablePasses", unfollowed := true, recurses := true, plainKeys := false, apart := false, narrowed := true }
def TablePassesUptoSaid : Prop := tablePassesUptoRow.holds Try.pinned (OpenSpec.upto tablePassesSpec)

/-- 'heptadlaw16.TableShortest', WHERE WHAT IT READS IS OF BULK AT MOST 1048576: true; the input reads as it did. -/
def tableShortestUptoRow : OpenClaim := { program := "ytnggimkkjdipmaa", sum := "0c27558b7c619732196780c75f29cc35882e7cbdda23a2b27a4a3ad1c9b2649f", func := "heptad/heptadlaw16.TableShortest", spec := "tableShortest", unfollowed := true, recurses := true, plainKeys := false, apart := false, narrowed := true }
def TableShortestUptoSaid : Prop := tableShortestUptoRow.holds Try.pinned (OpenSpec.upto tableShortestSpec)

/-- 'heptadlaw16.TableSame', WHERE WHAT IT READS IS OF BULK AT MOST 1048576: true; the input reads as it did. -/
def tableSameUptoRow : OpenClaim := { program := "ytnggimkkjdipmaa", sum := "0c27558b7c619732196780c75f29cc35882e7cbdda23a2b27a4a3ad1c9b2649f", func := "heptad/heptadlaw16.TableSame", spec := "tableSame", unfollowed := true, recurses := true, plainKeys := false, apart := false, narrowed := true }
def TableSameUptoSaid : Prop := tableSameUptoRow.holds Try.pinned (OpenSpec.upto tableSameSpec)

/-- 'heptadlaw16.TableReaches', WHERE WHAT IT READS IS OF BULK AT MOST 1048576: true; the input reads as it did. -/
def tableReachesUptoRow : OpenClaim := { program := "ytnggimkkjdipmaa", sum := "0c27558b7c619732196780c75f29cc35882e7cbdda23a2b27a4a3ad1c9b2649f", func := "heptad/heptadlaw16.TableReaches", spec := "tableReaches", recurses := true, plainKeys := false, apart := false, narrowed := true }
def TableReachesUptoSaid : Prop := tableReachesUptoRow.holds Try.pinned (OpenSpec.upto tableReachesSpec)

/-- 'heptadlaw16.TableMutates', WHERE WHAT IT READS IS OF BULK AT MOST 1048576: true; the input reads as it did. -/
def tableMutatesUptoRow : OpenClaim := { program := "ytnggimkkjdipmaa", sum := "0c27558b7c619732196780c75f29cc35882e7cbdda23a2b27a4a3ad1c9b2649f", func := "heptad/heptadlaw16.TableMutates", spec := "tableMutates", unfollowed := true, recurses := true, plainKeys := false, apart := false, narrowed := true }
def TableMutatesUptoSaid : Prop := tableMutatesUptoRow.holds Try.pinned (OpenSpec.upto tableMutatesSpec)

/-- 'heptadlaw16.TableKeeps', WHERE WHAT IT READS IS OF BULK AT MOST 1048576: true; the input reads as it did. -/
def tableKeepsUptoRow : OpenClaim := { program := "ytnggimkkjdipmaa", sum := "0c27558b7c619732196780c75f29cc35882e7cbdda23a2b27a4a3ad1c9b2649f", func := "heptad/heptadlaw16.TableKeeps", spec := "tableKeeps", unfollowed := true, recurses := true, plainKeys := false, apart := false, narrowed := true }
def TableKeepsUptoSaid : Prop := tableKeepsUptoRow.holds Try.pinned (OpenSpec.upto tableKeepsSpec)

/-- 'heptadlaw16.TableLeast', WHERE WHAT IT READS IS OF BULK AT MOST 1048576: true; the input reads as it did. -/
def tableLeastUptoRow : OpenClaim := { program := "ytnggimkkjdipmaa", sum := "0c27558b7c619732196780c75f29cc35882e7cbdda23a2b27a4a3ad1c9b2649f", func := "heptad/heptadlaw16.TableLeast", spec := "tableLeast", unfollowed := true, recurses := true, plainKeys := false, apart := false, narrowed := true }
def TableLeastUptoSaid : Prop := tableLeastUptoRow.holds Try.pinned (OpenSpec.upto tableLeastSpec)

/-- 'heptadlaw16.TableSuites', WHERE WHAT IT READS IS OF BULK AT MOST 1048576: true; the input reads as it did. -/
def tableSuitesUptoRow : OpenClaim := { program := "ytnggimkkjdipmaa", sum := "0c27558b7c619732196780c75f29cc35882e7cbdda23a2b27a4a3ad1c9b2649f", func := "heptad/heptadlaw16.TableSuites", spec := "tableSuites", unfollowed := true, recurses := true, plainKeys := false, apart := false, narrowed := true }
def TableSuitesUptoSaid : Prop := tableSuitesUptoRow.holds Try.pinned (OpenSpec.upto tableSuitesSpec)

/-- 'heptadlaw16.TableFinds', WHERE WHAT IT READS IS OF BULK AT MOST 1048576: true; the input reads as it did. -/
def tableFindsUptoRow : OpenClaim := { program := "ytnggimkkjdipmaa", sum := "0c27558b7c619732196780c75f29cc35882e7cbdda23a2b27a4a3ad1c9b2649f", func := "heptad/heptadlaw16.TableFinds", spec := "tableFinds", unfollowed := true, recurses := true, plainKeys := false, apart := false, narrowed := true }
def TableFindsUptoSaid : Prop := tableFindsUptoRow.holds Try.pinned (OpenSpec.upto tableFindsSpec)

/-- 'heptadlaw16.TableHunts', WHERE WHAT IT READS IS OF BULK AT MOST 1048576: true; the input reads as it did. -/
def tableHuntsUptoRow : OpenClaim := { program := "ytnggimkkjdipmaa", sum := "0c27558b7c619732196780c75f29cc35882e7cbdda23a2b27a4a3ad1c9b2649f", func := "heptad/heptadlaw16.TableHunts", spec := "tableHunts", unfollowed := true, recurses := true, plainKeys := false, apart := false, narrowed := true }
def TableHuntsUptoSaid : Prop := tableHuntsUptoRow.holds Try.pinned (OpenSpec.upto tableHuntsSpec)

end Rows
end Go.Proofs.Ytnggimkkjdipmaa
