/-
  No cell of these rows narrows 'for every input' (looked for: loops, veiled, ifaces, maps, wideKeys, modest, calm, conditions, laid).
  DERIVED. THE GIVEN ROWS OF THIS SEAT. 5 by the template 'for every input the law returns true; each argument reads behind the call as it read before'; 0 by the template 'total and deterministic' (their statements: YtjgmlnkbplgloaaTotals.lean).
  GIVEN WITH THE SEED: the statements are not yours to turn. If you find one false, say at which input.
  Laid BY PROGRAM, IN A SANDBOX (cutbox-rows.mjs): the forced cells as the released guide's own fill.sh prints them over the translation 353a1beac23abc8e… (all of the seat's roots in one cut). By AI agents, Wed Nov 11 2026. No macro, syntax, notation, axiom, sorry.
-/
import Derived.Test.YtjgmlnkbplgloaaChecked
import GoSem.Claim
import GoSem.ClaimJoined
import GoSem.ClaimMapViews
import Derived.JoinedTies
import Derived.KernelRfl
namespace Go.Proofs.Ytjgmlnkbplgloaa
/- THE CELL 'sum', in the pinned program and in every row, IS THE sha256 OF THE DUMP (.gsa) THAT YtjgmlnkbplgloaaProg.lean LOADS. Nothing in Lean hashes anything: it is a label: what it is worth is what the hold of that sum in a sandbox is worth. -/
noncomputable def Try.pinned : Pinned := { name := "ytjgmlnkbplgloaa", sum := "353a1beac23abc8e8f12a3db2fef6495c08ca680955d21658d66957919776e84", checked := Try.checked }
namespace Rows
def none {H : Type} : Left H := { results := [], args := [] }

/-- 'heptadlaw21.SyncResets': WHATEVER THE INPUT: true; the input reads as it did. -/
def syncResetsSpec : ChangeSpec := { name := "syncResets", fn := fun _ => fun
  | [d1, d2, d3] => { results := [.lit (.bool true)], args := [d1, d2, d3] }
  | _ => none }
def syncResetsRow : OpenClaim := { program := "ytjgmlnkbplgloaa", sum := "353a1beac23abc8e8f12a3db2fef6495c08ca680955d21658d66957919776e84", func := "heptad/heptadlaw21.SyncResets", spec := "syncResets", unfollowed := true, recurses := true, apart := false }
def SyncResetsSaid : Prop := syncResetsRow.holds Try.pinned (OpenSpec.ofChange syncResetsSpec)

/-- ITS FALSE NEIGHBOUR: 'it returns false'. Refute it at one input. -/
def syncResetsWrong : ChangeSpec := { name := "syncResets", fn := fun _ => fun
  | [d1, d2, d3] => { results := [.lit (.bool false)], args := [d1, d2, d3] }
  | _ => none }
def SyncResetsWrongFalsely : Prop := syncResetsRow.holds Try.pinned (OpenSpec.ofChange syncResetsWrong)

/-- 'heptadlaw21.SyncPlays': WHATEVER THE INPUT: true; the input reads as it did. -/
def syncPlaysSpec : ChangeSpec := { name := "syncPlays", fn := fun _ => fun
  | [d1, d2, d3] => { results := [.lit (.bool true)], args := [d1, d2, d3] }
  | _ => none }
def syncPlaysRow : OpenClaim := { program := "ytjgmlnkbplgloaa", sum := "353a1beac23abc8e8f12a3db2fef6495c08ca680955d21658d66957919776e84", func := "heptad/heptadlaw21.SyncPlays", spec := "syncPlays", unfollowed := true, recurses := true, apart := false }
def SyncPlaysSaid : Prop := syncPlaysRow.holds Try.pinned (OpenSpec.ofChange syncPlaysSpec)

/-- ITS FALSE NEIGHBOUR: 'it returns false'. Refute it at one input. -/
def syncPlaysWrong : ChangeSpec := { name := "syncPlays", fn := fun _ => fun
  | [d1, d2, d3] => { results := [.lit (.bool false)], args := [d1, d2, d3] }
  | _ => none }
def SyncPlaysWrongFalsely : Prop := syncPlaysRow.holds Try.pinned (OpenSpec.ofChange syncPlaysWrong)

/-- 'heptadlaw21.SyncNothing': WHATEVER THE INPUT: true; the input reads as it did. -/
def syncNothingSpec : ChangeSpec := { name := "syncNothing", fn := fun _ => fun
  | [d] => { results := [.lit (.bool true)], args := [d] }
  | _ => none }
def syncNothingRow : OpenClaim := { program := "ytjgmlnkbplgloaa", sum := "353a1beac23abc8e8f12a3db2fef6495c08ca680955d21658d66957919776e84", func := "heptad/heptadlaw21.SyncNothing", spec := "syncNothing", unfollowed := true, recurses := true, apart := false }
def SyncNothingSaid : Prop := syncNothingRow.holds Try.pinned (OpenSpec.ofChange syncNothingSpec)

/-- ITS FALSE NEIGHBOUR: 'it returns false'. Refute it at one input. -/
def syncNothingWrong : ChangeSpec := { name := "syncNothing", fn := fun _ => fun
  | [d] => { results := [.lit (.bool false)], args := [d] }
  | _ => none }
def SyncNothingWrongFalsely : Prop := syncNothingRow.holds Try.pinned (OpenSpec.ofChange syncNothingWrong)

/-- 'heptadlaw21.SyncPlay': WHATEVER THE INPUT: true; the input reads as it did. -/
def syncPlaySpec : ChangeSpec := { name := "syncPlay", fn := fun _ => fun
  | [d1, d2] => { results := [.lit (.bool true)], args := [d1, d2] }
  | _ => none }
def syncPlayRow : OpenClaim := { program := "ytjgmlnkbplgloaa", sum := "353a1beac23abc8e8f12a3db2fef6495c08ca680955d21658d66957919776e84", func := "heptad/heptadlaw21.SyncPlay", spec := "syncPlay", unfollowed := true, recurses := true, apart := false }
def SyncPlaySaid : Prop := syncPlayRow.holds Try.pinned (OpenSpec.ofChange syncPlaySpec)

/-- ITS FALSE NEIGHBOUR: 'it returns false'. Refute it at one input. -/
def syncPlayWrong : ChangeSpec := { name := "syncPlay", fn := fun _ => fun
  | [d1, d2] => { results := [.lit (.bool false)], args := [d1, d2] }
  | _ => none }
def SyncPlayWrongFalsely : Prop := syncPlayRow.holds Try.pinned (OpenSpec.ofChange syncPlayWrong)

/-- 'heptadlaw21.SyncAgrees': WHATEVER THE INPUT: true; the input reads as it did. -/
def syncAgreesSpec : ChangeSpec := { name := "syncAgrees", fn := fun _ => fun
  | [d1, d2] => { results := [.lit (.bool true)], args := [d1, d2] }
  | _ => none }
def syncAgreesRow : OpenClaim := { program := "ytjgmlnkbplgloaa", sum := "353a1beac23abc8e8f12a3db2fef6495c08ca680955d21658d66957919776e84", func := "heptad/heptadlaw21.SyncAgrees", spec := "syncAgrees", unfollowed := true, recurses := true, apart := false }
def SyncAgreesSaid : Prop := syncAgreesRow.holds Try.pinned (OpenSpec.ofChange syncAgreesSpec)

/-- ITS FALSE NEIGHBOUR: 'it returns false'. Refute it at one input. -/
def syncAgreesWrong : ChangeSpec := { name := "syncAgrees", fn := fun _ => fun
  | [d1, d2] => { results := [.lit (.bool false)], args := [d1, d2] }
  | _ => none }
def SyncAgreesWrongFalsely : Prop := syncAgreesRow.holds Try.pinned (OpenSpec.ofChange syncAgreesWrong)

/- THE SECOND FORM. 'bulk': how many values and letters a reading holds, each counted each time it is reached (what is shared counts as often as it is met; a slice's spare places count too). A statement '..UptoSaid' is the law's where the arguments, and the package variables that the reading takes, are together of bulk at most 1048576: NARROWER than '..Said'. Prove '..Said' where nothing that the law and all that it calls make is longer than what came in: it says more and counts as full. Else prove '..UptoSaid'. A law counts once. -/
mutual
def uptoBulk {H : Type} : DataW H → Nat
  | .lit (.string bytes) => bytes.length + 1
  | .lit _ => 1
  | .nil => 1
  | .ptr d => uptoBulk d + 1
  | .slice elems spare => uptoBulkAll elems + uptoBulkAll spare + 1
  | .agg parts => uptoBulkAll parts + 1
  | .iface _ d => uptoBulk d + 1
  | .map entries => uptoBulkEntries entries + 1
  | .held _ => 1
def uptoBulkAll {H : Type} : List (DataW H) → Nat
  | [] => 0
  | d :: r => uptoBulk d + uptoBulkAll r
def uptoBulkEntries {H : Type} : List (Lit × DataW H) → Nat
  | [] => 0
  | x :: r => uptoBulkEntry x + uptoBulkEntries r
def uptoBulkEntry {H : Type} : Lit × DataW H → Nat
  | (.string bytes, d) => bytes.length + uptoBulk d + 1
  | (_, d) => uptoBulk d + 1
 end
def uptoSmall : (H : Type) → List (DataW H) → Bool := fun _ ds => decide (uptoBulkAll ds ≤ 1048576)
def OpenSpec.upto (s : _root_.Go.ChangeSpec) : _root_.Go.OpenSpec := { _root_.Go.OpenSpec.ofChange s with cond := some uptoSmall }

/-- 'heptadlaw21.SyncResets', WHERE WHAT IT READS IS OF BULK AT MOST 1048576: true; the input reads as it did. -/
def syncResetsUptoRow : OpenClaim := { program := "ytjgmlnkbplgloaa", sum := "353a1beac23abc8e8f12a3db2fef6495c08ca680955d21658d66957919776e84", func := "heptad/heptadlaw21.SyncResets", spec := "syncResets", unfollowed := true, recurses := true, apart := false, narrowed := true }
def SyncResetsUptoSaid : Prop := syncResetsUptoRow.holds Try.pinned (OpenSpec.upto syncResetsSpec)

/-- 'heptadlaw21.SyncPlays', WHERE WHAT IT READS IS OF BULK AT MOST 1048576: true; the input reads as it did. -/
def syncPlaysUptoRow : OpenClaim := { program := "ytjgmlnkbplgloaa", sum := "353a1beac23abc8e8f12a3db2fef6495c08ca680955d21658d66957919776e84", func := "heptad/heptadlaw21.SyncPlays", spec := "syncPlays", unfollowed := true, recurses := true, apart := false, narrowed := true }
def SyncPlaysUptoSaid : Prop := syncPlaysUptoRow.holds Try.pinned (OpenSpec.upto syncPlaysSpec)

/-- 'heptadlaw21.SyncNothing', WHERE WHAT IT READS IS OF BULK AT MOST 1048576: true; the input reads as it did. -/
def syncNothingUptoRow : OpenClaim := { program := "ytjgmlnkbplgloaa", sum := "353a1beac23abc8e8f12a3db2fef6495c08ca680955d21658d66957919776e84", func := "heptad/heptadlaw21.SyncNothing", spec := "syncNothing", unfollowed := true, recurses := true, apart := false, narrowed := true }
def SyncNothingUptoSaid : Prop := syncNothingUptoRow.holds Try.pinned (OpenSpec.upto syncNothingSpec)

/-- 'heptadlaw21.SyncPlay', WHERE WHAT IT READS IS OF BULK AT MOST 1048576: true; the input reads as it did. -/
def syncPlayUptoRow : OpenClaim := { program := "ytjgmlnkbplgloaa", sum := "353a1beac23abc8e8f12a3db2fef6495c08ca680955d21658d66957919776e84", func := "heptad/heptadlaw21.SyncPlay", spec := "syncPlay", unfollowed := true, recurses := true, apart := false, narrowed := true }
def SyncPlayUptoSaid : Prop := syncPlayUptoRow.holds Try.pinned (OpenSpec.upto syncPlaySpec)

/-- 'heptadlaw21.SyncAgrees', WHERE WHAT IT READS IS OF BULK AT MOST 1048576: true; the input reads as it did. -/
def syncAgreesUptoRow : OpenClaim := { program := "ytjgmlnkbplgloaa", sum := "353a1beac23abc8e8f12a3db2fef6495c08ca680955d21658d66957919776e84", func := "heptad/heptadlaw21.SyncAgrees", spec := "syncAgrees", unfollowed := true, recurses := true, apart := false, narrowed := true }
def SyncAgreesUptoSaid : Prop := syncAgreesUptoRow.holds Try.pinned (OpenSpec.upto syncAgreesSpec)

end Rows
end Go.Proofs.Ytjgmlnkbplgloaa
