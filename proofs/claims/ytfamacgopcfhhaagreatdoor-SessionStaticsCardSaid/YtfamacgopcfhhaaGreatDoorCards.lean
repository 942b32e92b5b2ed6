/-
  DERIVED. GIVEN WITH THE SEED: THE CARDS: each row of YtfamacgopcfhhaaGreatDoorRows.lean that lists a variable, with what it lists TIED to the program's text (the seventh form; the later family's looks); each row that meets fmt, with fmt's text TOLD by the authors' own Lean function (tested against real Go, not proved from fmt's source: count such statements apart). THE CARD IS WHAT COUNTS. Prove the row's statement (the work); the ties are given (YtfamacgopcfhhaaGreatDoorTie.lean); close each card by the builder's one call (the guide's Derived/Test/ToyasCard.lean, 'card_holds'). Laid BY PROGRAM, IN A SANDBOX (cutbox-door.mjs). By AI agents, Wed Nov 11 2026. No macro, syntax, notation, axiom, sorry.
-/
import Derived.Test.YtfamacgopcfhhaaGreatDoorRows
import GoSem.ClaimSeven
namespace Go.Proofs.YtfamacgopcfhhaaGreatDoor
namespace Rows

/-- THE TIED CARD OF 'dialtonelaw08.SessionStatics'. -/
def sessionStaticsCard : Claim7 := { stood := { row := sessionStaticsRow, standIns := [], harness := (true, "d7d4efd0f39f12ce90dd00de451c44c9024f156b5bf608b0eddc81f66d66e122"), looks := false }, kinds := [], alts := [], laidByText := true, laidKinds := [.data, .data, .data, .data, .widerDeep, .widerDeep, .pinned], laidTests := true, laidLooks := .later }
def SessionStaticsCardSaid : Prop := Claim7.holds Tryz.pinned (.plain (OpenSpec.ofChange sessionStaticsSpec)) sessionStaticsCard

/-- THE TIED CARD OF 'dialtonelaw08.SessionIgnores'. -/
def sessionIgnoresCard : Claim7 := { stood := { row := sessionIgnoresRow, standIns := [], harness := (true, "d7d4efd0f39f12ce90dd00de451c44c9024f156b5bf608b0eddc81f66d66e122"), looks := false }, kinds := [], alts := [], laidByText := true, laidKinds := [.data, .data, .data, .data, .widerDeep, .widerDeep, .pinned], laidTests := true, laidLooks := .later }
def SessionIgnoresCardSaid : Prop := Claim7.holds Tryz.pinned (.plain (OpenSpec.ofChange sessionIgnoresSpec)) sessionIgnoresCard

/-- THE TIED CARD OF 'dialtonelaw08.SessionAgain'. -/
def sessionAgainCard : Claim7 := { stood := { row := sessionAgainRow, standIns := [], harness := (true, "d7d4efd0f39f12ce90dd00de451c44c9024f156b5bf608b0eddc81f66d66e122"), looks := false }, kinds := [], alts := [], laidByText := true, laidKinds := [.data, .data, .data, .data, .widerDeep, .widerDeep, .pinned], laidTests := true, laidLooks := .later }
def SessionAgainCardSaid : Prop := Claim7.holds Tryz.pinned (.plain (OpenSpec.ofChange sessionAgainSpec)) sessionAgainCard

/-- THE TIED CARD OF 'dialtonelaw08.SessionKnown'. -/
def sessionKnownCard : Claim7 := { stood := { row := sessionKnownRow, standIns := [], harness := (true, "d7d4efd0f39f12ce90dd00de451c44c9024f156b5bf608b0eddc81f66d66e122"), looks := false }, kinds := [], alts := [], laidByText := true, laidKinds := [.data, .data, .data, .data, .widerDeep, .widerDeep, .pinned], laidTests := true, laidLooks := .later }
def SessionKnownCardSaid : Prop := Claim7.holds Tryz.pinned (.plain (OpenSpec.ofChange sessionKnownSpec)) sessionKnownCard

/-- THE TIED CARD OF 'dialtonelaw08.SessionPrints'. -/
def sessionPrintsCard : Claim7 := { stood := { row := sessionPrintsRow, standIns := [], harness := (true, "d7d4efd0f39f12ce90dd00de451c44c9024f156b5bf608b0eddc81f66d66e122"), looks := false }, kinds := [], alts := [], laidByText := true, laidKinds := [.data, .data, .data, .data, .widerDeep, .widerDeep, .pinned], laidTests := true, laidLooks := .later }
def SessionPrintsCardSaid : Prop := Claim7.holds Tryz.pinned (.plain (OpenSpec.ofChange sessionPrintsSpec)) sessionPrintsCard

/-- THE TIED CARD OF 'dialtonelaw08.SessionRound'. -/
def sessionRoundCard : Claim7 := { stood := { row := sessionRoundRow, standIns := [], harness := (true, "d7d4efd0f39f12ce90dd00de451c44c9024f156b5bf608b0eddc81f66d66e122"), looks := false }, kinds := [], alts := [], laidByText := true, laidKinds := [.data, .data, .data, .data, .widerDeep, .widerDeep, .pinned], laidTests := true, laidLooks := .later }
def SessionRoundCardSaid : Prop := Claim7.holds Tryz.pinned (.plain (OpenSpec.ofChange sessionRoundSpec)) sessionRoundCard

/-- THE SECOND FORM's CARD OF 'dialtonelaw08.SessionStatics'. -/
def sessionStaticsUptoCard : Claim7 := { stood := { row := sessionStaticsUptoRow, standIns := [], harness := (true, "d7d4efd0f39f12ce90dd00de451c44c9024f156b5bf608b0eddc81f66d66e122"), looks := false }, kinds := [], alts := [], laidByText := true, laidKinds := [.data, .data, .data, .data, .widerDeep, .widerDeep, .pinned], laidTests := true, laidLooks := .later }
def SessionStaticsUptoCardSaid : Prop := Claim7.holds Tryz.pinned (.plain (OpenSpec.upto sessionStaticsSpec)) sessionStaticsUptoCard

/-- THE SECOND FORM's CARD OF 'dialtonelaw08.SessionIgnores'. -/
def sessionIgnoresUptoCard : Claim7 := { stood := { row := sessionIgnoresUptoRow, standIns := [], harness := (true, "d7d4efd0f39f12ce90dd00de451c44c9024f156b5bf608b0eddc81f66d66e122"), looks := false }, kinds := [], alts := [], laidByText := true, laidKinds := [.data, .data, .data, .data, .widerDeep, .widerDeep, .pinned], laidTests := true, laidLooks := .later }
def SessionIgnoresUptoCardSaid : Prop := Claim7.holds Tryz.pinned (.plain (OpenSpec.upto sessionIgnoresSpec)) sessionIgnoresUptoCard

/-- THE SECOND FORM's CARD OF 'dialtonelaw08.SessionAgain'. -/
def sessionAgainUptoCard : Claim7 := { stood := { row := sessionAgainUptoRow, standIns := [], harness := (true, "d7d4efd0f39f12ce90dd00de451c44c9024f156b5bf608b0eddc81f66d66e122"), looks := false }, kinds := [], alts := [], laidByText := true, laidKinds := [.data, .data, .data, .data, .widerDeep, .widerDeep, .pinned], laidTests := true, laidLooks := .later }
def SessionAgainUptoCardSaid : Prop := Claim7.holds Tryz.pinned (.plain (OpenSpec.upto sessionAgainSpec)) sessionAgainUptoCard

/-- THE SECOND FORM's CARD OF 'dialtonelaw08.SessionKnown'. -/
def sessionKnownUptoCard : Claim7 := { stood := { row := sessionKnownUptoRow, standIns := [], harness := (true, "d7d4efd0f39f12ce90dd00de451c44c9024f156b5bf608b0eddc81f66d66e122"), looks := false }, kinds := [], alts := [], laidByText := true, laidKinds := [.data, .data, .data, .data, .widerDeep, .widerDeep, .pinned], laidTests := true, laidLooks := .later }
def SessionKnownUptoCardSaid : Prop := Claim7.holds Tryz.pinned (.plain (OpenSpec.upto sessionKnownSpec)) sessionKnownUptoCard

/-- THE SECOND FORM's CARD OF 'dialtonelaw08.SessionPrints'. -/
def sessionPrintsUptoCard : Claim7 := { stood := { row := sessionPrintsUptoRow, standIns := [], harness := (true, "d7d4efd0f39f12ce90dd00de451c44c9024f156b5bf608b0eddc81f66d66e122"), looks := false }, kinds := [], alts := [], laidByText := true, laidKinds := [.data, .data, .data, .data, .widerDeep, .widerDeep, .pinned], laidTests := true, laidLooks := .later }
def SessionPrintsUptoCardSaid : Prop := Claim7.holds Tryz.pinned (.plain (OpenSpec.upto sessionPrintsSpec)) sessionPrintsUptoCard

/-- THE SECOND FORM's CARD OF 'dialtonelaw08.SessionRound'. -/
def sessionRoundUptoCard : Claim7 := { stood := { row := sessionRoundUptoRow, standIns := [], harness := (true, "d7d4efd0f39f12ce90dd00de451c44c9024f156b5bf608b0eddc81f66d66e122"), looks := false }, kinds := [], alts := [], laidByText := true, laidKinds := [.data, .data, .data, .data, .widerDeep, .widerDeep, .pinned], laidTests := true, laidLooks := .later }
def SessionRoundUptoCardSaid : Prop := Claim7.holds Tryz.pinned (.plain (OpenSpec.upto sessionRoundSpec)) sessionRoundUptoCard
end Rows
end Go.Proofs.YtfamacgopcfhhaaGreatDoor
