/-
  NARROWER THAN 'FOR EVERY INPUT', by the rows' own cells (each row's printed sentence says how): TokenCopies: laid · TokenScripts: laid · TokenSets: laid · TokenNil: laid · TokenPlays: laid · TokenOne: laid · TokenMoves: laid.
  DERIVED. THE GIVEN ROWS OF THIS SEAT. 7 by the template 'for every input the law returns true; each argument reads behind the call as it read before'; 0 by the template 'total and deterministic' (their statements: YtkkmjjddalpocaaDoorTotals.lean).
  GIVEN WITH THE SEED: the statements are not yours to turn. If you find one false, say at which input.
  Laid BY PROGRAM, IN A SANDBOX (cutbox-rows.mjs): the forced cells as the released guide's own fill.sh prints them over the translation 787296e99b67f0d4… (all of the seat's roots in one cut). By AI agents, Wed Nov 11 2026. No macro, syntax, notation, axiom, sorry.
-/
import Derived.Test.YtkkmjjddalpocaaDoorChecked
import GoSem.Claim
import GoSem.ClaimJoined
import GoSem.ClaimMapViews
import Derived.JoinedTies
import Derived.KernelRfl
namespace Go.Proofs.YtkkmjjddalpocaaDoor
/- THE CELL 'sum', in the pinned program and in every row, IS THE sha256 OF THE DUMP (.gsa) THAT YtkkmjjddalpocaaDoorProg.lean LOADS. Nothing in Lean hashes anything: it is a label: what it is worth is what the hold of that sum in a sandbox is worth. -/
noncomputable def Tryd.pinned : Pinned := { name := "ytkkmjjddalpocaadoor", sum := "787296e99b67f0d44a1a91a97673504be7ba3eb7577484f5498bd864d8096e87", checked := Tryd.checked }
namespace Rows
def none {H : Type} : Left H := { results := [], args := [] }

/- WHAT THE LISTED PACKAGE-LEVEL VARIABLES READ AS WHEN THE CALL BEGINS. Each datum BY PROGRAM (the guide's laid-datum.mjs) off the statement by which the dump's own 'gosem.cut.vars' lays the variable. In a bare row this is a premise. The card (YtkkmjjddalpocaaDoorCards.lean) ties it to the program's text. -/
def laid_math_bits_deBruijn32tab {H : Type} : DataW H := .agg [.lit (.int .u8 0), .lit (.int .u8 1), .lit (.int .u8 28), .lit (.int .u8 2), .lit (.int .u8 29), .lit (.int .u8 14), .lit (.int .u8 24), .lit (.int .u8 3), .lit (.int .u8 30), .lit (.int .u8 22), .lit (.int .u8 20), .lit (.int .u8 15), .lit (.int .u8 25), .lit (.int .u8 17), .lit (.int .u8 4), .lit (.int .u8 8), .lit (.int .u8 31), .lit (.int .u8 27), .lit (.int .u8 13), .lit (.int .u8 23), .lit (.int .u8 21), .lit (.int .u8 19), .lit (.int .u8 16), .lit (.int .u8 7), .lit (.int .u8 26), .lit (.int .u8 12), .lit (.int .u8 18), .lit (.int .u8 6), .lit (.int .u8 11), .lit (.int .u8 5), .lit (.int .u8 10), .lit (.int .u8 9)]
def laid_math_bits_deBruijn64tab {H : Type} : DataW H := .agg [.lit (.int .u8 0), .lit (.int .u8 1), .lit (.int .u8 56), .lit (.int .u8 2), .lit (.int .u8 57), .lit (.int .u8 49), .lit (.int .u8 28), .lit (.int .u8 3), .lit (.int .u8 61), .lit (.int .u8 58), .lit (.int .u8 42), .lit (.int .u8 50), .lit (.int .u8 38), .lit (.int .u8 29), .lit (.int .u8 17), .lit (.int .u8 4), .lit (.int .u8 62), .lit (.int .u8 47), .lit (.int .u8 59), .lit (.int .u8 36), .lit (.int .u8 45), .lit (.int .u8 43), .lit (.int .u8 51), .lit (.int .u8 22), .lit (.int .u8 53), .lit (.int .u8 39), .lit (.int .u8 33), .lit (.int .u8 30), .lit (.int .u8 24), .lit (.int .u8 18), .lit (.int .u8 12), .lit (.int .u8 5), .lit (.int .u8 63), .lit (.int .u8 55), .lit (.int .u8 48), .lit (.int .u8 27), .lit (.int .u8 60), .lit (.int .u8 41), .lit (.int .u8 37), .lit (.int .u8 16), .lit (.int .u8 46), .lit (.int .u8 35), .lit (.int .u8 44), .lit (.int .u8 21), .lit (.int .u8 52), .lit (.int .u8 32), .lit (.int .u8 23), .lit (.int .u8 11), .lit (.int .u8 54), .lit (.int .u8 26), .lit (.int .u8 40), .lit (.int .u8 15), .lit (.int .u8 34), .lit (.int .u8 20), .lit (.int .u8 31), .lit (.int .u8 10), .lit (.int .u8 25), .lit (.int .u8 14), .lit (.int .u8 19), .lit (.int .u8 9), .lit (.int .u8 13), .lit (.int .u8 8), .lit (.int .u8 7), .lit (.int .u8 6)]

/-- 'heptadlaw20.TokenCopies': WHATEVER THE INPUT: true; the input reads as it did. -/
def tokenCopiesSpec : ChangeSpec := { name := "tokenCopies", fn := fun _ => fun
  | [d] => { results := [.lit (.bool true)], args := [d] }
  | _ => none }
def tokenCopiesRow : OpenClaim := { program := "ytkkmjjddalpocaadoor", sum := "787296e99b67f0d44a1a91a97673504be7ba3eb7577484f5498bd864d8096e87", func := "heptad/heptadlaw20.TokenCopies", spec := "tokenCopies", unfollowed := true, recurses := true, named := ["math/bits.deBruijn32tab", "math/bits.deBruijn64tab"], apart := false, laid := [("math/bits.deBruijn32tab", laid_math_bits_deBruijn32tab), ("math/bits.deBruijn64tab", laid_math_bits_deBruijn64tab)] }
def TokenCopiesSaid : Prop := tokenCopiesRow.holds Tryd.pinned (OpenSpec.ofChange tokenCopiesSpec)

/-- ITS FALSE NEIGHBOUR: 'it returns false'. Refute it at one input. -/
def tokenCopiesWrong : ChangeSpec := { name := "tokenCopies", fn := fun _ => fun
  | [d] => { results := [.lit (.bool false)], args := [d] }
  | _ => none }
def TokenCopiesWrongFalsely : Prop := tokenCopiesRow.holds Tryd.pinned (OpenSpec.ofChange tokenCopiesWrong)

/-- 'heptadlaw20.TokenScripts': WHATEVER THE INPUT: true; the input reads as it did. -/
def tokenScriptsSpec : ChangeSpec := { name := "tokenScripts", fn := fun _ => fun
  | [d1, d2, d3] => { results := [.lit (.bool true)], args := [d1, d2, d3] }
  | _ => none }
def tokenScriptsRow : OpenClaim := { program := "ytkkmjjddalpocaadoor", sum := "787296e99b67f0d44a1a91a97673504be7ba3eb7577484f5498bd864d8096e87", func := "heptad/heptadlaw20.TokenScripts", spec := "tokenScripts", unfollowed := true, recurses := true, named := ["math/bits.deBruijn32tab", "math/bits.deBruijn64tab"], apart := false, laid := [("math/bits.deBruijn32tab", laid_math_bits_deBruijn32tab), ("math/bits.deBruijn64tab", laid_math_bits_deBruijn64tab)] }
def TokenScriptsSaid : Prop := tokenScriptsRow.holds Tryd.pinned (OpenSpec.ofChange tokenScriptsSpec)

/-- ITS FALSE NEIGHBOUR: 'it returns false'. Refute it at one input. -/
def tokenScriptsWrong : ChangeSpec := { name := "tokenScripts", fn := fun _ => fun
  | [d1, d2, d3] => { results := [.lit (.bool false)], args := [d1, d2, d3] }
  | _ => none }
def TokenScriptsWrongFalsely : Prop := tokenScriptsRow.holds Tryd.pinned (OpenSpec.ofChange tokenScriptsWrong)

/-- 'heptadlaw20.TokenSets': WHATEVER THE INPUT: true; the input reads as it did. -/
def tokenSetsSpec : ChangeSpec := { name := "tokenSets", fn := fun _ => fun
  | [d] => { results := [.lit (.bool true)], args := [d] }
  | _ => none }
def tokenSetsRow : OpenClaim := { program := "ytkkmjjddalpocaadoor", sum := "787296e99b67f0d44a1a91a97673504be7ba3eb7577484f5498bd864d8096e87", func := "heptad/heptadlaw20.TokenSets", spec := "tokenSets", unfollowed := true, recurses := true, named := ["math/bits.deBruijn32tab", "math/bits.deBruijn64tab"], apart := false, laid := [("math/bits.deBruijn32tab", laid_math_bits_deBruijn32tab), ("math/bits.deBruijn64tab", laid_math_bits_deBruijn64tab)] }
def TokenSetsSaid : Prop := tokenSetsRow.holds Tryd.pinned (OpenSpec.ofChange tokenSetsSpec)

/-- ITS FALSE NEIGHBOUR: 'it returns false'. Refute it at one input. -/
def tokenSetsWrong : ChangeSpec := { name := "tokenSets", fn := fun _ => fun
  | [d] => { results := [.lit (.bool false)], args := [d] }
  | _ => none }
def TokenSetsWrongFalsely : Prop := tokenSetsRow.holds Tryd.pinned (OpenSpec.ofChange tokenSetsWrong)

/-- 'heptadlaw20.TokenNil': WHATEVER THE INPUT: true; the input reads as it did. -/
def tokenNilSpec : ChangeSpec := { name := "tokenNil", fn := fun _ => fun
  | [d1, d2] => { results := [.lit (.bool true)], args := [d1, d2] }
  | _ => none }
def tokenNilRow : OpenClaim := { program := "ytkkmjjddalpocaadoor", sum := "787296e99b67f0d44a1a91a97673504be7ba3eb7577484f5498bd864d8096e87", func := "heptad/heptadlaw20.TokenNil", spec := "tokenNil", unfollowed := true, recurses := true, named := ["math/bits.deBruijn32tab", "math/bits.deBruijn64tab"], apart := false, laid := [("math/bits.deBruijn32tab", laid_math_bits_deBruijn32tab), ("math/bits.deBruijn64tab", laid_math_bits_deBruijn64tab)] }
def TokenNilSaid : Prop := tokenNilRow.holds Tryd.pinned (OpenSpec.ofChange tokenNilSpec)

/-- ITS FALSE NEIGHBOUR: 'it returns false'. Refute it at one input. -/
def tokenNilWrong : ChangeSpec := { name := "tokenNil", fn := fun _ => fun
  | [d1, d2] => { results := [.lit (.bool false)], args := [d1, d2] }
  | _ => none }
def TokenNilWrongFalsely : Prop := tokenNilRow.holds Tryd.pinned (OpenSpec.ofChange tokenNilWrong)

/-- 'heptadlaw20.TokenPlays': WHATEVER THE INPUT: true; the input reads as it did. -/
def tokenPlaysSpec : ChangeSpec := { name := "tokenPlays", fn := fun _ => fun
  | [d1, d2, d3] => { results := [.lit (.bool true)], args := [d1, d2, d3] }
  | _ => none }
def tokenPlaysRow : OpenClaim := { program := "ytkkmjjddalpocaadoor", sum := "787296e99b67f0d44a1a91a97673504be7ba3eb7577484f5498bd864d8096e87", func := "heptad/heptadlaw20.TokenPlays", spec := "tokenPlays", unfollowed := true, recurses := true, named := ["math/bits.deBruijn32tab", "math/bits.deBruijn64tab"], apart := false, laid := [("math/bits.deBruijn32tab", laid_math_bits_deBruijn32tab), ("math/bits.deBruijn64tab", laid_math_bits_deBruijn64tab)] }
def TokenPlaysSaid : Prop := tokenPlaysRow.holds Tryd.pinned (OpenSpec.ofChange tokenPlaysSpec)

/-- ITS FALSE NEIGHBOUR: 'it returns false'. Refute it at one input. -/
def tokenPlaysWrong : ChangeSpec := { name := "tokenPlays", fn := fun _ => fun
  | [d1, d2, d3] => { results := [.lit (.bool false)], args := [d1, d2, d3] }
  | _ => none }
def TokenPlaysWrongFalsely : Prop := tokenPlaysRow.holds Tryd.pinned (OpenSpec.ofChange tokenPlaysWrong)

/-- 'heptadlaw20.TokenOne': WHATEVER THE INPUT: true; the input reads as it did. -/
def tokenOneSpec : ChangeSpec := { name := "tokenOne", fn := fun _ => fun
  | [d1, d2, d3] => { results := [.lit (.bool true)], args := [d1, d2, d3] }
  | _ => none }
def tokenOneRow : OpenClaim := { program := "ytkkmjjddalpocaadoor", sum := "787296e99b67f0d44a1a91a97673504be7ba3eb7577484f5498bd864d8096e87", func := "heptad/heptadlaw20.TokenOne", spec := "tokenOne", unfollowed := true, recurses := true, named := ["math/bits.deBruijn32tab", "math/bits.deBruijn64tab"], apart := false, laid := [("math/bits.deBruijn32tab", laid_math_bits_deBruijn32tab), ("math/bits.deBruijn64tab", laid_math_bits_deBruijn64tab)] }
def TokenOneSaid : Prop := tokenOneRow.holds Tryd.pinned (OpenSpec.ofChange tokenOneSpec)

/-- ITS FALSE NEIGHBOUR: 'it returns false'. Refute it at one input. -/
def tokenOneWrong : ChangeSpec := { name := "tokenOne", fn := fun _ => fun
  | [d1, d2, d3] => { results := [.lit (.bool false)], args := [d1, d2, d3] }
  | _ => none }
def TokenOneWrongFalsely : Prop := tokenOneRow.holds Tryd.pinned (OpenSpec.ofChange tokenOneWrong)

/-- 'heptadlaw20.TokenMoves': WHATEVER THE INPUT: true; the input reads as it did. -/
def tokenMovesSpec : ChangeSpec := { name := "tokenMoves", fn := fun _ => fun
  | [d1, d2, d3] => { results := [.lit (.bool true)], args := [d1, d2, d3] }
  | _ => none }
def tokenMovesRow : OpenClaim := { program := "ytkkmjjddalpocaadoor", sum := "787296e99b67f0d44a1a91a97673504be7ba3eb7577484f5498bd864d8096e87", func := "heptad/heptadlaw20.TokenMoves", spec := "tokenMoves", unfollowed := true, recurses := true, named := ["math/bits.deBruijn32tab", "math/bits.deBruijn64tab"], apart := false, laid := [("math/bits.deBruijn32tab", laid_math_bits_deBruijn32tab), ("math/bits.deBruijn64tab", laid_math_bits_deBruijn64tab)] }
def TokenMovesSaid : Prop := tokenMovesRow.holds Tryd.pinned (OpenSpec.ofChange tokenMovesSpec)

/-- ITS FALSE NEIGHBOUR: 'it returns false'. Refute it at one input. -/
def tokenMovesWrong : ChangeSpec := { name := "tokenMoves", fn := fun _ => fun
  | [d1, d2, d3] => { results := [.lit (.bool false)], args := [d1, d2, d3] }
  | _ => none }
def TokenMovesWrongFalsely : Prop := tokenMovesRow.holds Tryd.pinned (OpenSpec.ofChange tokenMovesWrong)

/- THE SECOND FORM. 'bulk': how many values and letters a reading holds, each counted each time it is reached (what is shared counts as often as it is met; a slice's spare places count too). A statement '..UptoSaid' is the law's where the arguments, and the package variables that the reading takes, are together of bulk at most 1048576: NARROWER than '..Said'. Prove '..Said' where nothing that the law and all that it calls make is longer than what came in: it says more and counts as full. Else prove '..UptoSaid'. A law counts once. -/
mutual
def uptoBulk {H : Type} : DataW H → Nat
  | .lit (.string bytes) => bytes.length + 1
  | .lit _ => 1
  | .nil => 1
  | .ptr d => uptoBulk d + 1
  | .slice elems spare => uptoBulkAll elems + uptoBulkAll spare + 1
  | .agg parts => uptoBulkAll parts + 1
  | .iface _ d => uptoBulk d + 1
  | .map entries => uptoBulkEntries entries + 1
  | .held _ => 1
def uptoBulkAll {H : Type} : List (DataW H) → Nat
  | [] => 0
  | d :: r => uptoBulk d + uptoBulkAll r
def uptoBulkEntries {H : Type} : List (Lit × DataW H) → Nat
  | [] => 0
  | x :: r => uptoBulkEntry x + uptoBulkEntries r
def uptoBulkEntry {H : Type} : Lit × DataW H → Nat
  | (.string bytes, d) => bytes.length + uptoBulk d + 1
  | (_, d) => uptoBulk d + 1
 end
def uptoSmall : (H : Type) → List (DataW H) → Bool := fun _ ds => decide (uptoBulkAll ds ≤ 1048576)
def OpenSpec.upto (s : _root_.Go.ChangeSpec) : _root_.Go.OpenSpec := { _root_.Go.OpenSpec.ofChange s with cond := some uptoSmall }

/-- 'heptadlaw20.TokenCopies', WHERE WHAT IT READS IS OF BULK AT MOST 1048576: true; the input reads as it did. -/
def tokenCopiesUptoRow : OpenClaim := { program := "ytkkmjjddalpocaadoor", sum := "787296e99b67f0d44a1a91a97673504be7ba3eb7577484f5498bd864d8096e87", func := "heptad/heptadlaw20.TokenCopies", spec := "tokenCopies", unfollowed := true, recurses := true, named := ["math/bits.deBruijn32tab", "math/bits.deBruijn64tab"], apart := false, laid := [("math/bits.deBruijn32tab", laid_math_bits_deBruijn32tab), ("math/bits.deBruijn64tab", laid_math_bits_deBruijn64tab)], narrowed := true }
def TokenCopiesUptoSaid : Prop := tokenCopiesUptoRow.holds Tryd.pinned (OpenSpec.upto tokenCopiesSpec)

/-- 'heptadlaw20.TokenScripts', WHERE WHAT IT READS IS OF BULK AT MOST 1048576: true; the input reads as it did. -/
def tokenScriptsUptoRow : OpenClaim := { program := "ytkkmjjddalpocaadoor", sum := "787296e99b67f0d44a1a91a97673504be7ba3eb7577484f5498bd864d8096e87", func := "heptad/heptadlaw20.TokenScripts", spec := "tokenScripts", unfollowed := true, recurses := true, named := ["math/bits.deBruijn32tab", "math/bits.deBruijn64tab"], apart := false, laid := [("math/bits.deBruijn32tab", laid_math_bits_deBruijn32tab), ("math/bits.deBruijn64tab", laid_math_bits_deBruijn64tab)], narrowed := true }
def TokenScriptsUptoSaid : Prop := tokenScriptsUptoRow.holds Tryd.pinned (OpenSpec.upto tokenScriptsSpec)

/-- 'heptadlaw20.TokenSets', WHERE WHAT IT READS IS OF BULK AT MOST 1048576: true; the input reads as it did. -/
def tokenSetsUptoRow : OpenClaim := { program := "ytkkmjjddalpocaadoor", sum := "787296e99b67f0d44a1a91a97673504be7ba3eb7577484f5498bd864d8096e87", func := "heptad/heptadlaw20.TokenSets", spec := "tokenSets", unfollowed := true, recurses := true, named := ["math/bits.deBruijn32tab", "math/bits.deBruijn64tab"], apart := false, laid := [("math/bits.deBruijn32tab", laid_math_bits_deBruijn32tab), ("math/bits.deBruijn64tab", laid_math_bits_deBruijn64tab)], narrowed := true }
def TokenSetsUptoSaid : Prop := tokenSetsUptoRow.holds Tryd.pinned (OpenSpec.upto tokenSetsSpec)

/-- 'heptadlaw20.TokenNil', WHERE WHAT IT READS IS OF BULK AT MOST 1048576: true; the input reads as it did. -/
def tokenNilUptoRow : OpenClaim := { program := "ytkkmjjddalpocaadoor", sum := "787296e99b67f0d44a1a91a97673504be7ba3eb7577484f5498bd864d8096e87", func := "heptad/heptadlaw20.TokenNil", spec := "tokenNil", unfollowed := true, recurses := true, named := ["math/bits.deBruijn32tab", "math/bits.deBruijn64tab"], apart := false, laid := [("math/bits.deBruijn32tab", laid_math_bits_deBruijn32tab), ("math/bits.deBruijn64tab", laid_math_bits_deBruijn64tab)], narrowed := true }
def TokenNilUptoSaid : Prop := tokenNilUptoRow.holds Tryd.pinned (OpenSpec.upto tokenNilSpec)

/-- 'heptadlaw20.TokenPlays', WHERE WHAT IT READS IS OF BULK AT MOST 1048576: true; the input reads as it did. -/
def tokenPlaysUptoRow : OpenClaim := { program := "ytkkmjjddalpocaadoor", sum := "787296e99b67f0d44a1a91a97673504be7ba3eb7577484f5498bd864d8096e87", func := "heptad/heptadlaw20.TokenPlays", spec := "tokenPlays", unfollowed := true, recurses := true, named := ["math/bits.deBruijn32tab", "math/bits.deBruijn64tab"], apart := false, laid := [("math/bits.deBruijn32tab", laid_math_bits_deBruijn32tab), ("math/bits.deBruijn64tab", laid_math_bits_deBruijn64tab)], narrowed := true }
def TokenPlaysUptoSaid : Prop := tokenPlaysUptoRow.holds Tryd.pinned (OpenSpec.upto tokenPlaysSpec)

/-- 'heptadlaw20.TokenOne', WHERE WHAT IT READS IS OF BULK AT MOST 1048576: true; the input reads as it did. -/
def tokenOneUptoRow : OpenClaim := { program := "ytkkmjjddalpocaadoor", sum := "787296e99b67f0d44a1a91a97673504be7ba3eb7577484f5498bd864d8096e87", func := "heptad/heptadlaw20.TokenOne", spec := "tokenOne", unfollowed := true, recurses := true, named := ["math/bits.deBruijn32tab", "math/bits.deBruijn64tab"], apart := false, laid := [("math/bits.deBruijn32tab", laid_math_bits_deBruijn32tab), ("math/bits.deBruijn64tab", laid_math_bits_deBruijn64tab)], narrowed := true }
def TokenOneUptoSaid : Prop := tokenOneUptoRow.holds Tryd.pinned (OpenSpec.upto tokenOneSpec)

/-- 'heptadlaw20.TokenMoves', WHERE WHAT IT READS IS OF BULK AT MOST 1048576: true; the input reads as it did. -/
def tokenMovesUptoRow : OpenClaim := { program := "ytkkmjjddalpocaadoor", sum := "787296e99b67f0d44a1a91a97673504be7ba3eb7577484f5498bd864d8096e87", func := "heptad/heptadlaw20.TokenMoves", spec := "tokenMoves", unfollowed := true, recurses := true, named := ["math/bits.deBruijn32tab", "math/bits.deBruijn64tab"], apart := false, laid := [("math/bits.deBruijn32tab", laid_math_bits_deBruijn32tab), ("math/bits.deBruijn64tab", laid_math_bits_deBruijn64tab)], narrowed := true }
def TokenMovesUptoSaid : Prop := tokenMovesUptoRow.holds Tryd.pinned (OpenSpec.upto tokenMovesSpec)

end Rows
end Go.Proofs.YtkkmjjddalpocaaDoor
