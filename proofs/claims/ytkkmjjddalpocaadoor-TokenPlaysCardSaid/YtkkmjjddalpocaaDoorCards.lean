/-
  DERIVED. GIVEN WITH THE SEED: THE CARDS: each row of YtkkmjjddalpocaaDoorRows.lean that lists a variable, with what it lists TIED to the program's text (the seventh form; the later family's looks); each row that meets fmt, with fmt's text TOLD by the authors' own Lean function (tested against real Go, not proved from fmt's source: count such statements apart). THE CARD IS WHAT COUNTS. Prove the row's statement (the work); the ties are given (YtkkmjjddalpocaaDoorTie.lean); close each card by the builder's one call (the guide's Derived/Test/ToyasCard.lean, 'card_holds'). Laid BY PROGRAM, IN A SANDBOX (cutbox-door.mjs). By AI agents, Wed Nov 11 2026. No macro, syntax, notation, axiom, sorry.
-/
import Derived.Test.YtkkmjjddalpocaaDoorRows
import GoSem.ClaimSeven
namespace Go.Proofs.YtkkmjjddalpocaaDoor
namespace Rows

/-- THE TIED CARD OF 'heptadlaw20.TokenCopies'. -/
def tokenCopiesCard : Claim7 := { stood := { row := tokenCopiesRow, standIns := [], harness := (true, "931ee095e3fb9706da2b599f1104811586e3e7a6b5e4c721b466e7dc7eec7276"), looks := false }, kinds := [], alts := [], laidByText := true, laidKinds := [.data, .data], laidTests := true, laidLooks := .later }
def TokenCopiesCardSaid : Prop := Claim7.holds Tryd.pinned (.plain (OpenSpec.ofChange tokenCopiesSpec)) tokenCopiesCard

/-- THE TIED CARD OF 'heptadlaw20.TokenScripts'. -/
def tokenScriptsCard : Claim7 := { stood := { row := tokenScriptsRow, standIns := [], harness := (true, "931ee095e3fb9706da2b599f1104811586e3e7a6b5e4c721b466e7dc7eec7276"), looks := false }, kinds := [], alts := [], laidByText := true, laidKinds := [.data, .data], laidTests := true, laidLooks := .later }
def TokenScriptsCardSaid : Prop := Claim7.holds Tryd.pinned (.plain (OpenSpec.ofChange tokenScriptsSpec)) tokenScriptsCard

/-- THE TIED CARD OF 'heptadlaw20.TokenSets'. -/
def tokenSetsCard : Claim7 := { stood := { row := tokenSetsRow, standIns := [], harness := (true, "931ee095e3fb9706da2b599f1104811586e3e7a6b5e4c721b466e7dc7eec7276"), looks := false }, kinds := [], alts := [], laidByText := true, laidKinds := [.data, .data], laidTests := true, laidLooks := .later }
def TokenSetsCardSaid : Prop := Claim7.holds Tryd.pinned (.plain (OpenSpec.ofChange tokenSetsSpec)) tokenSetsCard

/-- THE TIED CARD OF 'heptadlaw20.TokenNil'. -/
def tokenNilCard : Claim7 := { stood := { row := tokenNilRow, standIns := [], harness := (true, "931ee095e3fb9706da2b599f1104811586e3e7a6b5e4c721b466e7dc7eec7276"), looks := false }, kinds := [], alts := [], laidByText := true, laidKinds := [.data, .data], laidTests := true, laidLooks := .later }
def TokenNilCardSaid : Prop := Claim7.holds Tryd.pinned (.plain (OpenSpec.ofChange tokenNilSpec)) tokenNilCard

/-- THE TIED CARD OF 'heptadlaw20.TokenPlays'. -/
def tokenPlaysCard : Claim7 := { stood := { row := tokenPlaysRow, standIns := [], harness := (true, "931ee095e3fb9706da2b599f1104811586e3e7a6b5e4c721b466e7dc7eec7276"), looks := false }, kinds := [], alts := [], laidByText := true, laidKinds := [.data, .data], laidTests := true, laidLooks := .later }
def TokenPlaysCardSaid : Prop := Claim7.holds Tryd.pinned (.plain (OpenSpec.ofChange tokenPlaysSpec)) tokenPlaysCard

/-- THE TIED CARD OF 'heptadlaw20.TokenOne'. -/
def tokenOneCard : Claim7 := { stood := { row := tokenOneRow, standIns := [], harness := (true, "931ee095e3fb9706da2b599f1104811586e3e7a6b5e4c721b466e7dc7eec7276"), looks := false }, kinds := [], alts := [], laidByText := true, laidKinds := [.data, .data], laidTests := true, laidLooks := .later }
def TokenOneCardSaid : Prop := Claim7.holds Tryd.pinned (.plain (OpenSpec.ofChange tokenOneSpec)) tokenOneCard

/-- THE TIED CARD OF 'heptadlaw20.TokenMoves'. -/
def tokenMovesCard : Claim7 := { stood := { row := tokenMovesRow, standIns := [], harness := (true, "931ee095e3fb9706da2b599f1104811586e3e7a6b5e4c721b466e7dc7eec7276"), looks := false }, kinds := [], alts := [], laidByText := true, laidKinds := [.data, .data], laidTests := true, laidLooks := .later }
def TokenMovesCardSaid : Prop := Claim7.holds Tryd.pinned (.plain (OpenSpec.ofChange tokenMovesSpec)) tokenMovesCard

/-- THE SECOND FORM's CARD OF 'heptadlaw20.TokenCopies'. -/
def tokenCopiesUptoCard : Claim7 := { stood := { row := tokenCopiesUptoRow, standIns := [], harness := (true, "931ee095e3fb9706da2b599f1104811586e3e7a6b5e4c721b466e7dc7eec7276"), looks := false }, kinds := [], alts := [], laidByText := true, laidKinds := [.data, .data], laidTests := true, laidLooks := .later }
def TokenCopiesUptoCardSaid : Prop := Claim7.holds Tryd.pinned (.plain (OpenSpec.upto tokenCopiesSpec)) tokenCopiesUptoCard

/-- THE SECOND FORM's CARD OF 'heptadlaw20.TokenScripts'. -/
def tokenScriptsUptoCard : Claim7 := { stood := { row := tokenScriptsUptoRow, standIns := [], harness := (true, "931ee095e3fb9706da2b599f1104811586e3e7a6b5e4c721b466e7dc7eec7276"), looks := false }, kinds := [], alts := [], laidByText := true, laidKinds := [.data, .data], laidTests := true, laidLooks := .later }
def TokenScriptsUptoCardSaid : Prop := Claim7.holds Tryd.pinned (.plain (OpenSpec.upto tokenScriptsSpec)) tokenScriptsUptoCard

/-- THE SECOND FORM's CARD OF 'heptadlaw20.TokenSets'. -/
def tokenSetsUptoCard : Claim7 := { stood := { row := tokenSetsUptoRow, standIns := [], harness := (true, "931ee095e3fb9706da2b599f1104811586e3e7a6b5e4c721b466e7dc7eec7276"), looks := false }, kinds := [], alts := [], laidByText := true, laidKinds := [.data, .data], laidTests := true, laidLooks := .later }
def TokenSetsUptoCardSaid : Prop := Claim7.holds Tryd.pinned (.plain (OpenSpec.upto tokenSetsSpec)) tokenSetsUptoCard

/-- THE SECOND FORM's CARD OF 'heptadlaw20.TokenNil'. -/
def tokenNilUptoCard : Claim7 := { stood := { row := tokenNilUptoRow, standIns := [], harness := (true, "931ee095e3fb9706da2b599f1104811586e3e7a6b5e4c721b466e7dc7eec7276"), looks := false }, kinds := [], alts := [], laidByText := true, laidKinds := [.data, .data], laidTests := true, laidLooks := .later }
def TokenNilUptoCardSaid : Prop := Claim7.holds Tryd.pinned (.plain (OpenSpec.upto tokenNilSpec)) tokenNilUptoCard

/-- THE SECOND FORM's CARD OF 'heptadlaw20.TokenPlays'. -/
def tokenPlaysUptoCard : Claim7 := { stood := { row := tokenPlaysUptoRow, standIns := [], harness := (true, "931ee095e3fb9706da2b599f1104811586e3e7a6b5e4c721b466e7dc7eec7276"), looks := false }, kinds := [], alts := [], laidByText := true, laidKinds := [.data, .data], laidTests := true, laidLooks := .later }
def TokenPlaysUptoCardSaid : Prop := Claim7.holds Tryd.pinned (.plain (OpenSpec.upto tokenPlaysSpec)) tokenPlaysUptoCard

/-- THE SECOND FORM's CARD OF 'heptadlaw20.TokenOne'. -/
def tokenOneUptoCard : Claim7 := { stood := { row := tokenOneUptoRow, standIns := [], harness := (true, "931ee095e3fb9706da2b599f1104811586e3e7a6b5e4c721b466e7dc7eec7276"), looks := false }, kinds := [], alts := [], laidByText := true, laidKinds := [.data, .data], laidTests := true, laidLooks := .later }
def TokenOneUptoCardSaid : Prop := Claim7.holds Tryd.pinned (.plain (OpenSpec.upto tokenOneSpec)) tokenOneUptoCard

/-- THE SECOND FORM's CARD OF 'heptadlaw20.TokenMoves'. -/
def tokenMovesUptoCard : Claim7 := { stood := { row := tokenMovesUptoRow, standIns := [], harness := (true, "931ee095e3fb9706da2b599f1104811586e3e7a6b5e4c721b466e7dc7eec7276"), looks := false }, kinds := [], alts := [], laidByText := true, laidKinds := [.data, .data], laidTests := true, laidLooks := .later }
def TokenMovesUptoCardSaid : Prop := Claim7.holds Tryd.pinned (.plain (OpenSpec.upto tokenMovesSpec)) tokenMovesUptoCard
end Rows
end Go.Proofs.YtkkmjjddalpocaaDoor
