/-
  DERIVED. GIVEN WITH THE SEED: THE CARDS: each row of YtjnlppmodagegaaDoorRows.lean that lists a variable, with what it lists TIED to the program's text (the seventh form; the later family's looks); each row that meets fmt, with fmt's text TOLD by the authors' own Lean function (tested against real Go, not proved from fmt's source: count such statements apart). THE CARD IS WHAT COUNTS. Prove the row's statement (the work); the ties are given (YtjnlppmodagegaaDoorTie.lean); close each card by the builder's one call (the guide's Derived/Test/ToyasCard.lean, 'card_holds'). Laid BY PROGRAM, IN A SANDBOX (cutbox-door.mjs). By AI agents, Wed Nov 11 2026. No macro, syntax, notation, axiom, sorry.
-/
import Derived.Test.YtjnlppmodagegaaDoorRows
import GoSem.ClaimSeven
namespace Go.Proofs.YtjnlppmodagegaaDoor
namespace Rows

/-- THE TIED CARD OF 'missivelaw15.SubjectBase'. -/
def subjectBaseCard : Claim7 := { stood := { row := subjectBaseRow, standIns := [], harness := (true, "d33448b7b00f5a03f594c499e9980c17cbe9e958288c8fb1108b1e6f43c36dd0"), looks := false }, kinds := [], alts := [], laidByText := true, laidKinds := [.data, .data, .pinned], laidTests := true, laidLooks := .later }
def SubjectBaseCardSaid : Prop := Claim7.holds Tryd.pinned (.plain (OpenSpec.ofChange subjectBaseSpec)) subjectBaseCard

/-- THE TIED CARD OF 'missivelaw15.SubjectTag'. -/
def subjectTagCard : Claim7 := { stood := { row := subjectTagRow, standIns := [], harness := (true, "d33448b7b00f5a03f594c499e9980c17cbe9e958288c8fb1108b1e6f43c36dd0"), looks := false }, kinds := [], alts := [], laidByText := true, laidKinds := [.data, .data, .pinned], laidTests := true, laidLooks := .later }
def SubjectTagCardSaid : Prop := Claim7.holds Tryd.pinned (.plain (OpenSpec.ofChange subjectTagSpec)) subjectTagCard

/-- THE TIED CARD OF 'missivelaw15.SubjectSame'. -/
def subjectSameCard : Claim7 := { stood := { row := subjectSameRow, standIns := [], harness := (true, "d33448b7b00f5a03f594c499e9980c17cbe9e958288c8fb1108b1e6f43c36dd0"), looks := false }, kinds := [], alts := [], laidByText := true, laidKinds := [.data, .data, .pinned], laidTests := true, laidLooks := .later }
def SubjectSameCardSaid : Prop := Claim7.holds Tryd.pinned (.plain (OpenSpec.ofChange subjectSameSpec)) subjectSameCard

/-- THE TIED CARD OF 'missivelaw20.PieceShows'. -/
def pieceShowsCard : Claim7 := { stood := { row := pieceShowsRow, standIns := [], harness := (true, "d33448b7b00f5a03f594c499e9980c17cbe9e958288c8fb1108b1e6f43c36dd0"), looks := false }, kinds := [], alts := [], laidByText := true, laidKinds := [.data, .data, .data, .data], laidTests := true, laidLooks := .later }
def PieceShowsCardSaid : Prop := Claim7.holds Tryd.pinned (.plain (OpenSpec.ofChange pieceShowsSpec)) pieceShowsCard

/-- THE TIED CARD OF 'missivelaw20.PieceBinds'. -/
def pieceBindsCard : Claim7 := { stood := { row := pieceBindsRow, standIns := [], harness := (true, "d33448b7b00f5a03f594c499e9980c17cbe9e958288c8fb1108b1e6f43c36dd0"), looks := false }, kinds := [], alts := [], laidByText := true, laidKinds := [.data, .data, .data, .data], laidTests := true, laidLooks := .later }
def PieceBindsCardSaid : Prop := Claim7.holds Tryd.pinned (.plain (OpenSpec.ofChange pieceBindsSpec)) pieceBindsCard

/-- THE TIED CARD OF 'missivelaw20.PieceHides'. -/
def pieceHidesCard : Claim7 := { stood := { row := pieceHidesRow, standIns := [], harness := (true, "d33448b7b00f5a03f594c499e9980c17cbe9e958288c8fb1108b1e6f43c36dd0"), looks := false }, kinds := [], alts := [], laidByText := true, laidKinds := [.data, .data, .data, .data], laidTests := true, laidLooks := .later }
def PieceHidesCardSaid : Prop := Claim7.holds Tryd.pinned (.plain (OpenSpec.ofChange pieceHidesSpec)) pieceHidesCard

/-- THE TIED CARD OF 'missivelaw20.PieceTexts'. -/
def pieceTextsCard : Claim7 := { stood := { row := pieceTextsRow, standIns := [], harness := (true, "d33448b7b00f5a03f594c499e9980c17cbe9e958288c8fb1108b1e6f43c36dd0"), looks := false }, kinds := [], alts := [], laidByText := true, laidKinds := [.data, .data, .data, .data], laidTests := true, laidLooks := .later }
def PieceTextsCardSaid : Prop := Claim7.holds Tryd.pinned (.plain (OpenSpec.ofChange pieceTextsSpec)) pieceTextsCard

/-- THE SECOND FORM's CARD OF 'missivelaw15.SubjectBase'. -/
def subjectBaseUptoCard : Claim7 := { stood := { row := subjectBaseUptoRow, standIns := [], harness := (true, "d33448b7b00f5a03f594c499e9980c17cbe9e958288c8fb1108b1e6f43c36dd0"), looks := false }, kinds := [], alts := [], laidByText := true, laidKinds := [.data, .data, .pinned], laidTests := true, laidLooks := .later }
def SubjectBaseUptoCardSaid : Prop := Claim7.holds Tryd.pinned (.plain (OpenSpec.upto subjectBaseSpec)) subjectBaseUptoCard

/-- THE SECOND FORM's CARD OF 'missivelaw15.SubjectTag'. -/
def subjectTagUptoCard : Claim7 := { stood := { row := subjectTagUptoRow, standIns := [], harness := (true, "d33448b7b00f5a03f594c499e9980c17cbe9e958288c8fb1108b1e6f43c36dd0"), looks := false }, kinds := [], alts := [], laidByText := true, laidKinds := [.data, .data, .pinned], laidTests := true, laidLooks := .later }
def SubjectTagUptoCardSaid : Prop := Claim7.holds Tryd.pinned (.plain (OpenSpec.upto subjectTagSpec)) subjectTagUptoCard

/-- THE SECOND FORM's CARD OF 'missivelaw15.SubjectSame'. -/
def subjectSameUptoCard : Claim7 := { stood := { row := subjectSameUptoRow, standIns := [], harness := (true, "d33448b7b00f5a03f594c499e9980c17cbe9e958288c8fb1108b1e6f43c36dd0"), looks := false }, kinds := [], alts := [], laidByText := true, laidKinds := [.data, .data, .pinned], laidTests := true, laidLooks := .later }
def SubjectSameUptoCardSaid : Prop := Claim7.holds Tryd.pinned (.plain (OpenSpec.upto subjectSameSpec)) subjectSameUptoCard

/-- THE SECOND FORM's CARD OF 'missivelaw20.PieceShows'. -/
def pieceShowsUptoCard : Claim7 := { stood := { row := pieceShowsUptoRow, standIns := [], harness := (true, "d33448b7b00f5a03f594c499e9980c17cbe9e958288c8fb1108b1e6f43c36dd0"), looks := false }, kinds := [], alts := [], laidByText := true, laidKinds := [.data, .data, .data, .data], laidTests := true, laidLooks := .later }
def PieceShowsUptoCardSaid : Prop := Claim7.holds Tryd.pinned (.plain (OpenSpec.upto pieceShowsSpec)) pieceShowsUptoCard

/-- THE SECOND FORM's CARD OF 'missivelaw20.PieceBinds'. -/
def pieceBindsUptoCard : Claim7 := { stood := { row := pieceBindsUptoRow, standIns := [], harness := (true, "d33448b7b00f5a03f594c499e9980c17cbe9e958288c8fb1108b1e6f43c36dd0"), looks := false }, kinds := [], alts := [], laidByText := true, laidKinds := [.data, .data, .data, .data], laidTests := true, laidLooks := .later }
def PieceBindsUptoCardSaid : Prop := Claim7.holds Tryd.pinned (.plain (OpenSpec.upto pieceBindsSpec)) pieceBindsUptoCard

/-- THE SECOND FORM's CARD OF 'missivelaw20.PieceHides'. -/
def pieceHidesUptoCard : Claim7 := { stood := { row := pieceHidesUptoRow, standIns := [], harness := (true, "d33448b7b00f5a03f594c499e9980c17cbe9e958288c8fb1108b1e6f43c36dd0"), looks := false }, kinds := [], alts := [], laidByText := true, laidKinds := [.data, .data, .data, .data], laidTests := true, laidLooks := .later }
def PieceHidesUptoCardSaid : Prop := Claim7.holds Tryd.pinned (.plain (OpenSpec.upto pieceHidesSpec)) pieceHidesUptoCard

/-- THE SECOND FORM's CARD OF 'missivelaw20.PieceTexts'. -/
def pieceTextsUptoCard : Claim7 := { stood := { row := pieceTextsUptoRow, standIns := [], harness := (true, "d33448b7b00f5a03f594c499e9980c17cbe9e958288c8fb1108b1e6f43c36dd0"), looks := false }, kinds := [], alts := [], laidByText := true, laidKinds := [.data, .data, .data, .data], laidTests := true, laidLooks := .later }
def PieceTextsUptoCardSaid : Prop := Claim7.holds Tryd.pinned (.plain (OpenSpec.upto pieceTextsSpec)) pieceTextsUptoCard
end Rows
end Go.Proofs.YtjnlppmodagegaaDoor
