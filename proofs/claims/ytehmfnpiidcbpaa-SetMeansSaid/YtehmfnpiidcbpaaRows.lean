/-
  NARROWER THAN 'FOR EVERY INPUT', by the rows' own cells (each row's printed sentence says how): SetMeans: loops.
  DERIVED. THE GIVEN ROWS OF THIS SEAT. 4 by the template 'for every input the law returns true; each argument reads behind the call as it read before'; 0 by the template 'total and deterministic' (their statements: YtehmfnpiidcbpaaTotals.lean).
  GIVEN WITH THE SEED: the statements are not yours to turn. If you find one false, say at which input.
  Laid BY PROGRAM, IN A SANDBOX (cutbox-rows.mjs): the forced cells as the released guide's own fill.sh prints them over the translation e95c96329136ddf2… (all of the seat's roots in one cut). By AI agents, Wed Nov 11 2026. No macro, syntax, notation, axiom, sorry.
-/
import Derived.Test.YtehmfnpiidcbpaaChecked
import GoSem.Claim
import GoSem.ClaimJoined
import GoSem.ClaimMapViews
import Derived.JoinedTies
import Derived.KernelRfl
namespace Go.Proofs.Ytehmfnpiidcbpaa
/- THE CELL 'sum', in the pinned program and in every row, IS THE sha256 OF THE DUMP (.gsa) THAT YtehmfnpiidcbpaaProg.lean LOADS. Nothing in Lean hashes anything: it is a label: what it is worth is what the hold of that sum in a sandbox is worth. -/
noncomputable def Try.pinned : Pinned := { name := "ytehmfnpiidcbpaa", sum := "e95c96329136ddf2503097e407e61732fb6a0f5027c4fa0337c210d4c11b82bb", checked := Try.checked }
namespace Rows
def none {H : Type} : Left H := { results := [], args := [] }

/-- 'heptadlaw03.SetLaws': WHATEVER THE INPUT: true; the input reads as it did. -/
def setLawsSpec : ChangeSpec := { name := "setLaws", fn := fun _ => fun
  | [d1, d2] => { results := [.lit (.bool true)], args := [d1, d2] }
  | _ => none }
def setLawsRow : OpenClaim := { program := "ytehmfnpiidcbpaa", sum := "e95c96329136ddf2503097e407e61732fb6a0f5027c4fa0337c210d4c11b82bb", func := "heptad/heptadlaw03.SetLaws", spec := "setLaws", unfollowed := true, recurses := true, apart := false }
def SetLawsSaid : Prop := setLawsRow.holds Try.pinned (OpenSpec.ofChange setLawsSpec)

/-- ITS FALSE NEIGHBOUR: 'it returns false'. Refute it at one input. -/
def setLawsWrong : ChangeSpec := { name := "setLaws", fn := fun _ => fun
  | [d1, d2] => { results := [.lit (.bool false)], args := [d1, d2] }
  | _ => none }
def SetLawsWrongFalsely : Prop := setLawsRow.holds Try.pinned (OpenSpec.ofChange setLawsWrong)

/-- 'heptadlaw03.SetHas': WHATEVER THE INPUT: true; the input reads as it did. -/
def setHasSpec : ChangeSpec := { name := "setHas", fn := fun _ => fun
  | [d1, d2, d3] => { results := [.lit (.bool true)], args := [d1, d2, d3] }
  | _ => none }
def setHasRow : OpenClaim := { program := "ytehmfnpiidcbpaa", sum := "e95c96329136ddf2503097e407e61732fb6a0f5027c4fa0337c210d4c11b82bb", func := "heptad/heptadlaw03.SetHas", spec := "setHas", unfollowed := true, recurses := true, apart := false }
def SetHasSaid : Prop := setHasRow.holds Try.pinned (OpenSpec.ofChange setHasSpec)

/-- ITS FALSE NEIGHBOUR: 'it returns false'. Refute it at one input. -/
def setHasWrong : ChangeSpec := { name := "setHas", fn := fun _ => fun
  | [d1, d2, d3] => { results := [.lit (.bool false)], args := [d1, d2, d3] }
  | _ => none }
def SetHasWrongFalsely : Prop := setHasRow.holds Try.pinned (OpenSpec.ofChange setHasWrong)

/-- 'heptadlaw03.SetMakes': WHATEVER THE INPUT: true; the input reads as it did. -/
def setMakesSpec : ChangeSpec := { name := "setMakes", fn := fun _ => fun
  | [d1, d2] => { results := [.lit (.bool true)], args := [d1, d2] }
  | _ => none }
def setMakesRow : OpenClaim := { program := "ytehmfnpiidcbpaa", sum := "e95c96329136ddf2503097e407e61732fb6a0f5027c4fa0337c210d4c11b82bb", func := "heptad/heptadlaw03.SetMakes", spec := "setMakes", unfollowed := true, recurses := true, apart := false }
def SetMakesSaid : Prop := setMakesRow.holds Try.pinned (OpenSpec.ofChange setMakesSpec)

/-- ITS FALSE NEIGHBOUR: 'it returns false'. Refute it at one input. -/
def setMakesWrong : ChangeSpec := { name := "setMakes", fn := fun _ => fun
  | [d1, d2] => { results := [.lit (.bool false)], args := [d1, d2] }
  | _ => none }
def SetMakesWrongFalsely : Prop := setMakesRow.holds Try.pinned (OpenSpec.ofChange setMakesWrong)

/-- 'heptadlaw03.SetMeans': WHATEVER THE INPUT: true; the input reads as it did. -/
def setMeansSpec : ChangeSpec := { name := "setMeans", fn := fun _ => fun
  | [d1, d2] => { results := [.lit (.bool true)], args := [d1, d2] }
  | _ => none }
def setMeansRow : OpenClaim := { program := "ytehmfnpiidcbpaa", sum := "e95c96329136ddf2503097e407e61732fb6a0f5027c4fa0337c210d4c11b82bb", func := "heptad/heptadlaw03.SetMeans", spec := "setMeans", unfollowed := true, recurses := true, loops := true, apart := false }
def SetMeansSaid : Prop := setMeansRow.holds Try.pinned (OpenSpec.ofChange setMeansSpec)

/-- ITS FALSE NEIGHBOUR: 'it returns false'. Refute it at one input. -/
def setMeansWrong : ChangeSpec := { name := "setMeans", fn := fun _ => fun
  | [d1, d2] => { results := [.lit (.bool false)], args := [d1, d2] }
  | _ => none }
def SetMeansWrongFalsely : Prop := setMeansRow.holds Try.pinned (OpenSpec.ofChange setMeansWrong)

/- THE SECOND FORM. 'bulk': how many values and letters a reading holds, each counted each time it is reached (what is shared counts as often as it is met; a slice's spare places count too). A statement '..UptoSaid' is the law's where the arguments, and the package variables that the reading takes, are together of bulk at most 1048576: NARROWER than '..Said'. Prove '..Said' where nothing that the law and all that it calls make is longer than what came in: it says more and counts as full. Else prove '..UptoSaid'. A law counts once. -/
mutual
def uptoBulk {H : Type} : DataW H → Nat
  | .lit (.string bytes) => bytes.length + 1
  | .lit _ => 1
  | .nil => 1
  | .ptr d => uptoBulk d + 1
  | .slice elems spare => uptoBulkAll elems + uptoBulkAll spare + 1
  | .agg parts => uptoBulkAll parts + 1
  | .iface _ d => uptoBulk d + 1
  | .map entries => uptoBulkEntries entries + 1
  | .held _ => 1
def uptoBulkAll {H : Type} : List (DataW H) → Nat
  | [] => 0
  | d :: r => uptoBulk d + uptoBulkAll r
def uptoBulkEntries {H : Type} : List (Lit × DataW H) → Nat
  | [] => 0
  | x :: r => uptoBulkEntry x + uptoBulkEntries r
def uptoBulkEntry {H : Type} : Lit × DataW H → Nat
  | (.string bytes, d) => bytes.length + uptoBulk d + 1
  | (_, d) => uptoBulk d + 1
 end
def uptoSmall : (H : Type) → List (DataW H) → Bool := fun _ ds => decide (uptoBulkAll ds ≤ 1048576)
def OpenSpec.upto (s : _root_.Go.ChangeSpec) : _root_.Go.OpenSpec := { _root_.Go.OpenSpec.ofChange s with cond := some uptoSmall }

/-- 'heptadlaw03.SetLaws', WHERE WHAT IT READS IS OF BULK AT MOST 1048576: true; the input reads as it did. -/
def setLawsUptoRow : OpenClaim := { program := "ytehmfnpiidcbpaa", sum := "e95c96329136ddf2503097e407e61732fb6a0f5027c4fa0337c210d4c11b82bb", func := "heptad/heptadlaw03.SetLaws", spec := "setLaws", unfollowed := true, recurses := true, apart := false, narrowed := true }
def SetLawsUptoSaid : Prop := setLawsUptoRow.holds Try.pinned (OpenSpec.upto setLawsSpec)

/-- 'heptadlaw03.SetHas', WHERE WHAT IT READS IS OF BULK AT MOST 1048576: true; the input reads as it did. -/
def setHasUptoRow : OpenClaim := { program := "ytehmfnpiidcbpaa", sum := "e95c96329136ddf2503097e407e61732fb6a0f5027c4fa0337c210d4c11b82bb", func := "heptad/heptadlaw03.SetHas", spec := "setHas", unfollowed := true, recurses := true, apart := false, narrowed := true }
def SetHasUptoSaid : Prop := setHasUptoRow.holds Try.pinned (OpenSpec.upto setHasSpec)

/-- 'heptadlaw03.SetMakes', WHERE WHAT IT READS IS OF BULK AT MOST 1048576: true; the input reads as it did. -/
def setMakesUptoRow : OpenClaim := { program := "ytehmfnpiidcbpaa", sum := "e95c96329136ddf2503097e407e61732fb6a0f5027c4fa0337c210d4c11b82bb", func := "heptad/heptadlaw03.SetMakes", spec := "setMakes", unfollowed := true, recurses := true, apart := false, narrowed := true }
def SetMakesUptoSaid : Prop := setMakesUptoRow.holds Try.pinned (OpenSpec.upto setMakesSpec)

/-- 'heptadlaw03.SetMeans', WHERE WHAT IT READS IS OF BULK AT MOST 1048576: true; the input reads as it did. -/
def setMeansUptoRow : OpenClaim := { program := "ytehmfnpiidcbpaa", sum := "e95c96329136ddf2503097e407e61732fb6a0f5027c4fa0337c210d4c11b82bb", func := "heptad/heptadlaw03.SetMeans", spec := "setMeans", unfollowed := true, recurses := true, loops := true, apart := false, narrowed := true }
def SetMeansUptoSaid : Prop := setMeansUptoRow.holds Try.pinned (OpenSpec.upto setMeansSpec)

end Rows
end Go.Proofs.Ytehmfnpiidcbpaa
