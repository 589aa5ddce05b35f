/-
  DERIVED. GIVEN WITH THE SEED: THE CARDS: each row of YtbiopeiafkldiaaGreatDoorRows.lean that lists a variable, with what it lists TIED to the program's text (the seventh form; the later family's looks); each row that meets fmt, with fmt's text TOLD by the authors' own Lean function (tested against real Go, not proved from fmt's source: count such statements apart). THE CARD IS WHAT COUNTS. Prove the row's statement (the work); the ties are given (YtbiopeiafkldiaaGreatDoorTie.lean); close each card by the builder's one call (the guide's Derived/Test/ToyasCard.lean, 'card_holds'). Laid BY PROGRAM, IN A SANDBOX (cutbox-door.mjs). By AI agents, Wed Nov 11 2026. No macro, syntax, notation, axiom, sorry.
-/
import Derived.Test.YtbiopeiafkldiaaGreatDoorRows
import GoSem.ClaimSeven
namespace Go.Proofs.YtbiopeiafkldiaaGreatDoor
namespace Rows

/-- THE TIED CARD OF 'brindlewoodlaw4.FmtspecFormats'. -/
def fmtspecFormatsCard : Claim7 := { stood := { row := fmtspecFormatsRow, standIns := [], harness := (true, "2167d7a813ba91f6d3f50d7249135aa23b71fb1cdc39aab17cefc8c42b5f7104"), looks := true }, kinds := [], alts := [], laidByText := true, laidKinds := [.data, .data, .data, .data, .sentinel, .sentinel, .pinned, .pinned], laidTests := true, laidLooks := .later }
def FmtspecFormatsCardSaid : Prop := Claim7.holds Tryz.pinned (.plain (OpenSpec.ofChange fmtspecFormatsSpec)) fmtspecFormatsCard

/-- THE TIED CARD OF 'brindlewoodlaw4.FmtspecWidths'. -/
def fmtspecWidthsCard : Claim7 := { stood := { row := fmtspecWidthsRow, standIns := [], harness := (true, "2167d7a813ba91f6d3f50d7249135aa23b71fb1cdc39aab17cefc8c42b5f7104"), looks := true }, kinds := [], alts := [], laidByText := true, laidKinds := [.data, .data, .data, .data, .sentinel, .sentinel, .pinned, .pinned], laidTests := true, laidLooks := .later }
def FmtspecWidthsCardSaid : Prop := Claim7.holds Tryz.pinned (.plain (OpenSpec.ofChange fmtspecWidthsSpec)) fmtspecWidthsCard

/-- THE TIED CARD OF 'brindlewoodlaw4.FmtspecRounds'. -/
def fmtspecRoundsCard : Claim7 := { stood := { row := fmtspecRoundsRow, standIns := [], harness := (true, "2167d7a813ba91f6d3f50d7249135aa23b71fb1cdc39aab17cefc8c42b5f7104"), looks := true }, kinds := [], alts := [], laidByText := true, laidKinds := [.data, .data, .data, .data, .sentinel, .sentinel, .pinned, .pinned], laidTests := true, laidLooks := .later }
def FmtspecRoundsCardSaid : Prop := Claim7.holds Tryz.pinned (.plain (OpenSpec.ofChange fmtspecRoundsSpec)) fmtspecRoundsCard

/-- THE TIED CARD OF 'brindlewoodlaw4.FmtspecTexts'. -/
def fmtspecTextsCard : Claim7 := { stood := { row := fmtspecTextsRow, standIns := [], harness := (true, "2167d7a813ba91f6d3f50d7249135aa23b71fb1cdc39aab17cefc8c42b5f7104"), looks := true }, kinds := [], alts := [], laidByText := true, laidKinds := [.data, .data, .data, .data, .sentinel, .sentinel, .pinned, .pinned], laidTests := true, laidLooks := .later }
def FmtspecTextsCardSaid : Prop := Claim7.holds Tryz.pinned (.plain (OpenSpec.ofChange fmtspecTextsSpec)) fmtspecTextsCard

/-- THE TIED CARD OF 'brindlewoodlaw4.FmtspecBack'. -/
def fmtspecBackCard : Claim7 := { stood := { row := fmtspecBackRow, standIns := [], harness := (true, "2167d7a813ba91f6d3f50d7249135aa23b71fb1cdc39aab17cefc8c42b5f7104"), looks := true }, kinds := [], alts := [], laidByText := true, laidKinds := [.data, .data, .data, .data, .sentinel, .sentinel, .pinned, .pinned], laidTests := true, laidLooks := .later }
def FmtspecBackCardSaid : Prop := Claim7.holds Tryz.pinned (.plain (OpenSpec.ofChange fmtspecBackSpec)) fmtspecBackCard

/-- THE SECOND FORM's CARD OF 'brindlewoodlaw4.FmtspecFormats'. -/
def fmtspecFormatsUptoCard : Claim7 := { stood := { row := fmtspecFormatsUptoRow, standIns := [], harness := (true, "2167d7a813ba91f6d3f50d7249135aa23b71fb1cdc39aab17cefc8c42b5f7104"), looks := true }, kinds := [], alts := [], laidByText := true, laidKinds := [.data, .data, .data, .data, .sentinel, .sentinel, .pinned, .pinned], laidTests := true, laidLooks := .later }
def FmtspecFormatsUptoCardSaid : Prop := Claim7.holds Tryz.pinned (.plain (OpenSpec.upto fmtspecFormatsSpec)) fmtspecFormatsUptoCard

/-- THE SECOND FORM's CARD OF 'brindlewoodlaw4.FmtspecWidths'. -/
def fmtspecWidthsUptoCard : Claim7 := { stood := { row := fmtspecWidthsUptoRow, standIns := [], harness := (true, "2167d7a813ba91f6d3f50d7249135aa23b71fb1cdc39aab17cefc8c42b5f7104"), looks := true }, kinds := [], alts := [], laidByText := true, laidKinds := [.data, .data, .data, .data, .sentinel, .sentinel, .pinned, .pinned], laidTests := true, laidLooks := .later }
def FmtspecWidthsUptoCardSaid : Prop := Claim7.holds Tryz.pinned (.plain (OpenSpec.upto fmtspecWidthsSpec)) fmtspecWidthsUptoCard

/-- THE SECOND FORM's CARD OF 'brindlewoodlaw4.FmtspecRounds'. -/
def fmtspecRoundsUptoCard : Claim7 := { stood := { row := fmtspecRoundsUptoRow, standIns := [], harness := (true, "2167d7a813ba91f6d3f50d7249135aa23b71fb1cdc39aab17cefc8c42b5f7104"), looks := true }, kinds := [], alts := [], laidByText := true, laidKinds := [.data, .data, .data, .data, .sentinel, .sentinel, .pinned, .pinned], laidTests := true, laidLooks := .later }
def FmtspecRoundsUptoCardSaid : Prop := Claim7.holds Tryz.pinned (.plain (OpenSpec.upto fmtspecRoundsSpec)) fmtspecRoundsUptoCard

/-- THE SECOND FORM's CARD OF 'brindlewoodlaw4.FmtspecTexts'. -/
def fmtspecTextsUptoCard : Claim7 := { stood := { row := fmtspecTextsUptoRow, standIns := [], harness := (true, "2167d7a813ba91f6d3f50d7249135aa23b71fb1cdc39aab17cefc8c42b5f7104"), looks := true }, kinds := [], alts := [], laidByText := true, laidKinds := [.data, .data, .data, .data, .sentinel, .sentinel, .pinned, .pinned], laidTests := true, laidLooks := .later }
def FmtspecTextsUptoCardSaid : Prop := Claim7.holds Tryz.pinned (.plain (OpenSpec.upto fmtspecTextsSpec)) fmtspecTextsUptoCard

/-- THE SECOND FORM's CARD OF 'brindlewoodlaw4.FmtspecBack'. -/
def fmtspecBackUptoCard : Claim7 := { stood := { row := fmtspecBackUptoRow, standIns := [], harness := (true, "2167d7a813ba91f6d3f50d7249135aa23b71fb1cdc39aab17cefc8c42b5f7104"), looks := true }, kinds := [], alts := [], laidByText := true, laidKinds := [.data, .data, .data, .data, .sentinel, .sentinel, .pinned, .pinned], laidTests := true, laidLooks := .later }
def FmtspecBackUptoCardSaid : Prop := Claim7.holds Tryz.pinned (.plain (OpenSpec.upto fmtspecBackSpec)) fmtspecBackUptoCard
end Rows
end Go.Proofs.YtbiopeiafkldiaaGreatDoor
