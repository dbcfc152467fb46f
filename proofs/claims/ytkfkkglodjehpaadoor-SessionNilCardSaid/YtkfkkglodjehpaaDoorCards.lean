/-
  DERIVED. GIVEN WITH THE SEED: THE CARDS: each row of YtkfkkglodjehpaaDoorRows.lean that lists a variable, with what it lists TIED to the program's text (the seventh form; the later family's looks); each row that meets fmt, with fmt's text TOLD by the authors' own Lean function (tested against real Go, not proved from fmt's source: count such statements apart). THE CARD IS WHAT COUNTS. Prove the row's statement (the work); the ties are given (YtkfkkglodjehpaaDoorTie.lean); close each card by the builder's one call (the guide's Derived/Test/ToyasCard.lean, 'card_holds'). Laid BY PROGRAM, IN A SANDBOX (cutbox-door.mjs). By AI agents, Wed Nov 11 2026. No macro, syntax, notation, axiom, sorry.
-/
import Derived.Test.YtkfkkglodjehpaaDoorRows
import GoSem.ClaimSeven
namespace Go.Proofs.YtkfkkglodjehpaaDoor
namespace Rows

/-- THE TIED CARD OF 'heptadlaw22.SessionData'. -/
def sessionDataCard : Claim7 := { stood := { row := sessionDataRow, standIns := [], harness := (true, "cc6bb433700ef3ffc14aafae2f12a400f9568f9b9288a43288e232443124d39e"), looks := false }, kinds := [], alts := [], laidByText := true, laidKinds := [.data, .data], laidTests := true, laidLooks := .later }
def SessionDataCardSaid : Prop := Claim7.holds Tryd.pinned (.plain (OpenSpec.ofChange sessionDataSpec)) sessionDataCard

/-- THE TIED CARD OF 'heptadlaw22.SessionPairs'. -/
def sessionPairsCard : Claim7 := { stood := { row := sessionPairsRow, standIns := [], harness := (true, "cc6bb433700ef3ffc14aafae2f12a400f9568f9b9288a43288e232443124d39e"), looks := false }, kinds := [], alts := [], laidByText := true, laidKinds := [.data, .data], laidTests := true, laidLooks := .later }
def SessionPairsCardSaid : Prop := Claim7.holds Tryd.pinned (.plain (OpenSpec.ofChange sessionPairsSpec)) sessionPairsCard

/-- THE TIED CARD OF 'heptadlaw22.SessionCopies'. -/
def sessionCopiesCard : Claim7 := { stood := { row := sessionCopiesRow, standIns := [], harness := (true, "cc6bb433700ef3ffc14aafae2f12a400f9568f9b9288a43288e232443124d39e"), looks := false }, kinds := [], alts := [], laidByText := true, laidKinds := [.data, .data], laidTests := true, laidLooks := .later }
def SessionCopiesCardSaid : Prop := Claim7.holds Tryd.pinned (.plain (OpenSpec.ofChange sessionCopiesSpec)) sessionCopiesCard

/-- THE TIED CARD OF 'heptadlaw22.SessionRelease'. -/
def sessionReleaseCard : Claim7 := { stood := { row := sessionReleaseRow, standIns := [], harness := (true, "cc6bb433700ef3ffc14aafae2f12a400f9568f9b9288a43288e232443124d39e"), looks := false }, kinds := [], alts := [], laidByText := true, laidKinds := [.data, .data], laidTests := true, laidLooks := .later }
def SessionReleaseCardSaid : Prop := Claim7.holds Tryd.pinned (.plain (OpenSpec.ofChange sessionReleaseSpec)) sessionReleaseCard

/-- THE TIED CARD OF 'heptadlaw22.SessionRefuses'. -/
def sessionRefusesCard : Claim7 := { stood := { row := sessionRefusesRow, standIns := [], harness := (true, "cc6bb433700ef3ffc14aafae2f12a400f9568f9b9288a43288e232443124d39e"), looks := false }, kinds := [], alts := [], laidByText := true, laidKinds := [.data, .data], laidTests := true, laidLooks := .later }
def SessionRefusesCardSaid : Prop := Claim7.holds Tryd.pinned (.plain (OpenSpec.ofChange sessionRefusesSpec)) sessionRefusesCard

/-- THE TIED CARD OF 'heptadlaw22.SessionNil'. -/
def sessionNilCard : Claim7 := { stood := { row := sessionNilRow, standIns := [], harness := (true, "cc6bb433700ef3ffc14aafae2f12a400f9568f9b9288a43288e232443124d39e"), looks := false }, kinds := [], alts := [], laidByText := true, laidKinds := [.data, .data], laidTests := true, laidLooks := .later }
def SessionNilCardSaid : Prop := Claim7.holds Tryd.pinned (.plain (OpenSpec.ofChange sessionNilSpec)) sessionNilCard

/-- THE SECOND FORM's CARD OF 'heptadlaw22.SessionData'. -/
def sessionDataUptoCard : Claim7 := { stood := { row := sessionDataUptoRow, standIns := [], harness := (true, "cc6bb433700ef3ffc14aafae2f12a400f9568f9b9288a43288e232443124d39e"), looks := false }, kinds := [], alts := [], laidByText := true, laidKinds := [.data, .data], laidTests := true, laidLooks := .later }
def SessionDataUptoCardSaid : Prop := Claim7.holds Tryd.pinned (.plain (OpenSpec.upto sessionDataSpec)) sessionDataUptoCard

/-- THE SECOND FORM's CARD OF 'heptadlaw22.SessionPairs'. -/
def sessionPairsUptoCard : Claim7 := { stood := { row := sessionPairsUptoRow, standIns := [], harness := (true, "cc6bb433700ef3ffc14aafae2f12a400f9568f9b9288a43288e232443124d39e"), looks := false }, kinds := [], alts := [], laidByText := true, laidKinds := [.data, .data], laidTests := true, laidLooks := .later }
def SessionPairsUptoCardSaid : Prop := Claim7.holds Tryd.pinned (.plain (OpenSpec.upto sessionPairsSpec)) sessionPairsUptoCard

/-- THE SECOND FORM's CARD OF 'heptadlaw22.SessionCopies'. -/
def sessionCopiesUptoCard : Claim7 := { stood := { row := sessionCopiesUptoRow, standIns := [], harness := (true, "cc6bb433700ef3ffc14aafae2f12a400f9568f9b9288a43288e232443124d39e"), looks := false }, kinds := [], alts := [], laidByText := true, laidKinds := [.data, .data], laidTests := true, laidLooks := .later }
def SessionCopiesUptoCardSaid : Prop := Claim7.holds Tryd.pinned (.plain (OpenSpec.upto sessionCopiesSpec)) sessionCopiesUptoCard

/-- THE SECOND FORM's CARD OF 'heptadlaw22.SessionRelease'. -/
def sessionReleaseUptoCard : Claim7 := { stood := { row := sessionReleaseUptoRow, standIns := [], harness := (true, "cc6bb433700ef3ffc14aafae2f12a400f9568f9b9288a43288e232443124d39e"), looks := false }, kinds := [], alts := [], laidByText := true, laidKinds := [.data, .data], laidTests := true, laidLooks := .later }
def SessionReleaseUptoCardSaid : Prop := Claim7.holds Tryd.pinned (.plain (OpenSpec.upto sessionReleaseSpec)) sessionReleaseUptoCard

/-- THE SECOND FORM's CARD OF 'heptadlaw22.SessionRefuses'. -/
def sessionRefusesUptoCard : Claim7 := { stood := { row := sessionRefusesUptoRow, standIns := [], harness := (true, "cc6bb433700ef3ffc14aafae2f12a400f9568f9b9288a43288e232443124d39e"), looks := false }, kinds := [], alts := [], laidByText := true, laidKinds := [.data, .data], laidTests := true, laidLooks := .later }
def SessionRefusesUptoCardSaid : Prop := Claim7.holds Tryd.pinned (.plain (OpenSpec.upto sessionRefusesSpec)) sessionRefusesUptoCard

/-- THE SECOND FORM's CARD OF 'heptadlaw22.SessionNil'. -/
def sessionNilUptoCard : Claim7 := { stood := { row := sessionNilUptoRow, standIns := [], harness := (true, "cc6bb433700ef3ffc14aafae2f12a400f9568f9b9288a43288e232443124d39e"), looks := false }, kinds := [], alts := [], laidByText := true, laidKinds := [.data, .data], laidTests := true, laidLooks := .later }
def SessionNilUptoCardSaid : Prop := Claim7.holds Tryd.pinned (.plain (OpenSpec.upto sessionNilSpec)) sessionNilUptoCard
end Rows
end Go.Proofs.YtkfkkglodjehpaaDoor
