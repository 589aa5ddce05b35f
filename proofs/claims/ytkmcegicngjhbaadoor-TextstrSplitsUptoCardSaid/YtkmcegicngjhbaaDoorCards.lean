/-
  DERIVED. GIVEN WITH THE SEED: THE CARDS: each row of YtkmcegicngjhbaaDoorRows.lean that lists a variable, with what it lists TIED to the program's text (the seventh form; the later family's looks); each row that meets fmt, with fmt's text TOLD by the authors' own Lean function (tested against real Go, not proved from fmt's source: count such statements apart). THE CARD IS WHAT COUNTS. Prove the row's statement (the work); the ties are given (YtkmcegicngjhbaaDoorTie.lean); close each card by the builder's one call (the guide's Derived/Test/ToyasCard.lean, 'card_holds'). Laid BY PROGRAM, IN A SANDBOX (cutbox-door.mjs). By AI agents, Wed Nov 11 2026. No macro, syntax, notation, axiom, sorry.
-/
import Derived.Test.YtkmcegicngjhbaaDoorRows
import GoSem.ClaimSeven
namespace Go.Proofs.YtkmcegicngjhbaaDoor
namespace Rows

/-- THE TIED CARD OF 'brindlewoodlaw4.TextstrLinesKept'. -/
def textstrLinesKeptCard : Claim7 := { stood := { row := textstrLinesKeptRow, standIns := [], harness := (true, "7c42656ca6107d72cb28d3d3963def4b9d56975ab905109fc36d7a11b16d1b7e"), looks := false }, kinds := [], alts := [], laidByText := true, laidKinds := [.data, .pinned], laidTests := true, laidLooks := .later }
def TextstrLinesKeptCardSaid : Prop := Claim7.holds Tryd.pinned (.plain (OpenSpec.ofChange textstrLinesKeptSpec)) textstrLinesKeptCard

/-- THE TIED CARD OF 'brindlewoodlaw4.TextstrLetters'. -/
def textstrLettersCard : Claim7 := { stood := { row := textstrLettersRow, standIns := [], harness := (true, "7c42656ca6107d72cb28d3d3963def4b9d56975ab905109fc36d7a11b16d1b7e"), looks := false }, kinds := [], alts := [], laidByText := true, laidKinds := [.data, .pinned], laidTests := true, laidLooks := .later }
def TextstrLettersCardSaid : Prop := Claim7.holds Tryd.pinned (.plain (OpenSpec.ofChange textstrLettersSpec)) textstrLettersCard

/-- THE TIED CARD OF 'brindlewoodlaw4.TextstrCases'. -/
def textstrCasesCard : Claim7 := { stood := { row := textstrCasesRow, standIns := [], harness := (true, "7c42656ca6107d72cb28d3d3963def4b9d56975ab905109fc36d7a11b16d1b7e"), looks := false }, kinds := [], alts := [], laidByText := true, laidKinds := [.data, .pinned], laidTests := true, laidLooks := .later }
def TextstrCasesCardSaid : Prop := Claim7.holds Tryd.pinned (.plain (OpenSpec.ofChange textstrCasesSpec)) textstrCasesCard

/-- THE TIED CARD OF 'brindlewoodlaw4.TextstrWraps'. -/
def textstrWrapsCard : Claim7 := { stood := { row := textstrWrapsRow, standIns := [], harness := (true, "7c42656ca6107d72cb28d3d3963def4b9d56975ab905109fc36d7a11b16d1b7e"), looks := false }, kinds := [], alts := [], laidByText := true, laidKinds := [.data, .pinned], laidTests := true, laidLooks := .later }
def TextstrWrapsCardSaid : Prop := Claim7.holds Tryd.pinned (.plain (OpenSpec.ofChange textstrWrapsSpec)) textstrWrapsCard

/-- THE TIED CARD OF 'brindlewoodlaw4.TextstrNearer'. -/
def textstrNearerCard : Claim7 := { stood := { row := textstrNearerRow, standIns := [], harness := (true, "7c42656ca6107d72cb28d3d3963def4b9d56975ab905109fc36d7a11b16d1b7e"), looks := false }, kinds := [], alts := [], laidByText := true, laidKinds := [.data, .pinned], laidTests := true, laidLooks := .later }
def TextstrNearerCardSaid : Prop := Claim7.holds Tryd.pinned (.plain (OpenSpec.ofChange textstrNearerSpec)) textstrNearerCard

/-- THE TIED CARD OF 'brindlewoodlaw4.TextstrFinds'. -/
def textstrFindsCard : Claim7 := { stood := { row := textstrFindsRow, standIns := [], harness := (true, "7c42656ca6107d72cb28d3d3963def4b9d56975ab905109fc36d7a11b16d1b7e"), looks := false }, kinds := [], alts := [], laidByText := true, laidKinds := [.data, .pinned], laidTests := true, laidLooks := .later }
def TextstrFindsCardSaid : Prop := Claim7.holds Tryd.pinned (.plain (OpenSpec.ofChange textstrFindsSpec)) textstrFindsCard

/-- THE TIED CARD OF 'brindlewoodlaw4.TextstrJoins'. -/
def textstrJoinsCard : Claim7 := { stood := { row := textstrJoinsRow, standIns := [], harness := (true, "7c42656ca6107d72cb28d3d3963def4b9d56975ab905109fc36d7a11b16d1b7e"), looks := false }, kinds := [], alts := [], laidByText := true, laidKinds := [.data, .pinned], laidTests := true, laidLooks := .later }
def TextstrJoinsCardSaid : Prop := Claim7.holds Tryd.pinned (.plain (OpenSpec.ofChange textstrJoinsSpec)) textstrJoinsCard

/-- THE TIED CARD OF 'brindlewoodlaw4.TextstrReplaced'. -/
def textstrReplacedCard : Claim7 := { stood := { row := textstrReplacedRow, standIns := [], harness := (true, "7c42656ca6107d72cb28d3d3963def4b9d56975ab905109fc36d7a11b16d1b7e"), looks := false }, kinds := [], alts := [], laidByText := true, laidKinds := [.data, .pinned], laidTests := true, laidLooks := .later }
def TextstrReplacedCardSaid : Prop := Claim7.holds Tryd.pinned (.plain (OpenSpec.ofChange textstrReplacedSpec)) textstrReplacedCard

/-- THE TIED CARD OF 'brindlewoodlaw4.TextstrSplits'. -/
def textstrSplitsCard : Claim7 := { stood := { row := textstrSplitsRow, standIns := [], harness := (true, "7c42656ca6107d72cb28d3d3963def4b9d56975ab905109fc36d7a11b16d1b7e"), looks := false }, kinds := [], alts := [], laidByText := true, laidKinds := [.data, .pinned], laidTests := true, laidLooks := .later }
def TextstrSplitsCardSaid : Prop := Claim7.holds Tryd.pinned (.plain (OpenSpec.ofChange textstrSplitsSpec)) textstrSplitsCard

/-- THE TIED CARD OF 'brindlewoodlaw4.TextstrRejoins'. -/
def textstrRejoinsCard : Claim7 := { stood := { row := textstrRejoinsRow, standIns := [], harness := (true, "7c42656ca6107d72cb28d3d3963def4b9d56975ab905109fc36d7a11b16d1b7e"), looks := false }, kinds := [], alts := [], laidByText := true, laidKinds := [.data, .pinned], laidTests := true, laidLooks := .later }
def TextstrRejoinsCardSaid : Prop := Claim7.holds Tryd.pinned (.plain (OpenSpec.ofChange textstrRejoinsSpec)) textstrRejoinsCard

/-- THE TIED CARD OF 'brindlewoodlaw4.TextstrSides'. -/
def textstrSidesCard : Claim7 := { stood := { row := textstrSidesRow, standIns := [], harness := (true, "7c42656ca6107d72cb28d3d3963def4b9d56975ab905109fc36d7a11b16d1b7e"), looks := false }, kinds := [], alts := [], laidByText := true, laidKinds := [.data, .pinned], laidTests := true, laidLooks := .later }
def TextstrSidesCardSaid : Prop := Claim7.holds Tryd.pinned (.plain (OpenSpec.ofChange textstrSidesSpec)) textstrSidesCard

/-- THE SECOND FORM's CARD OF 'brindlewoodlaw4.TextstrLinesKept'. -/
def textstrLinesKeptUptoCard : Claim7 := { stood := { row := textstrLinesKeptUptoRow, standIns := [], harness := (true, "7c42656ca6107d72cb28d3d3963def4b9d56975ab905109fc36d7a11b16d1b7e"), looks := false }, kinds := [], alts := [], laidByText := true, laidKinds := [.data, .pinned], laidTests := true, laidLooks := .later }
def TextstrLinesKeptUptoCardSaid : Prop := Claim7.holds Tryd.pinned (.plain (OpenSpec.upto textstrLinesKeptSpec)) textstrLinesKeptUptoCard

/-- THE SECOND FORM's CARD OF 'brindlewoodlaw4.TextstrLetters'. -/
def textstrLettersUptoCard : Claim7 := { stood := { row := textstrLettersUptoRow, standIns := [], harness := (true, "7c42656ca6107d72cb28d3d3963def4b9d56975ab905109fc36d7a11b16d1b7e"), looks := false }, kinds := [], alts := [], laidByText := true, laidKinds := [.data, .pinned], laidTests := true, laidLooks := .later }
def TextstrLettersUptoCardSaid : Prop := Claim7.holds Tryd.pinned (.plain (OpenSpec.upto textstrLettersSpec)) textstrLettersUptoCard

/-- THE SECOND FORM's CARD OF 'brindlewoodlaw4.TextstrCases'. -/
def textstrCasesUptoCard : Claim7 := { stood := { row := textstrCasesUptoRow, standIns := [], harness := (true, "7c42656ca6107d72cb28d3d3963def4b9d56975ab905109fc36d7a11b16d1b7e"), looks := false }, kinds := [], alts := [], laidByText := true, laidKinds := [.data, .pinned], laidTests := true, laidLooks := .later }
def TextstrCasesUptoCardSaid : Prop := Claim7.holds Tryd.pinned (.plain (OpenSpec.upto textstrCasesSpec)) textstrCasesUptoCard

/-- THE SECOND FORM's CARD OF 'brindlewoodlaw4.TextstrWraps'. -/
def textstrWrapsUptoCard : Claim7 := { stood := { row := textstrWrapsUptoRow, standIns := [], harness := (true, "7c42656ca6107d72cb28d3d3963def4b9d56975ab905109fc36d7a11b16d1b7e"), looks := false }, kinds := [], alts := [], laidByText := true, laidKinds := [.data, .pinned], laidTests := true, laidLooks := .later }
def TextstrWrapsUptoCardSaid : Prop := Claim7.holds Tryd.pinned (.plain (OpenSpec.upto textstrWrapsSpec)) textstrWrapsUptoCard

/-- THE SECOND FORM's CARD OF 'brindlewoodlaw4.TextstrNearer'. -/
def textstrNearerUptoCard : Claim7 := { stood := { row := textstrNearerUptoRow, standIns := [], harness := (true, "7c42656ca6107d72cb28d3d3963def4b9d56975ab905109fc36d7a11b16d1b7e"), looks := false }, kinds := [], alts := [], laidByText := true, laidKinds := [.data, .pinned], laidTests := true, laidLooks := .later }
def TextstrNearerUptoCardSaid : Prop := Claim7.holds Tryd.pinned (.plain (OpenSpec.upto textstrNearerSpec)) textstrNearerUptoCard

/-- THE SECOND FORM's CARD OF 'brindlewoodlaw4.TextstrFinds'. -/
def textstrFindsUptoCard : Claim7 := { stood := { row := textstrFindsUptoRow, standIns := [], harness := (true, "7c42656ca6107d72cb28d3d3963def4b9d56975ab905109fc36d7a11b16d1b7e"), looks := false }, kinds := [], alts := [], laidByText := true, laidKinds := [.data, .pinned], laidTests := true, laidLooks := .later }
def TextstrFindsUptoCardSaid : Prop := Claim7.holds Tryd.pinned (.plain (OpenSpec.upto textstrFindsSpec)) textstrFindsUptoCard

/-- THE SECOND FORM's CARD OF 'brindlewoodlaw4.TextstrJoins'. -/
def textstrJoinsUptoCard : Claim7 := { stood := { row := textstrJoinsUptoRow, standIns := [], harness := (true, "7c42656ca6107d72cb28d3d3963def4b9d56975ab905109fc36d7a11b16d1b7e"), looks := false }, kinds := [], alts := [], laidByText := true, laidKinds := [.data, .pinned], laidTests := true, laidLooks := .later }
def TextstrJoinsUptoCardSaid : Prop := Claim7.holds Tryd.pinned (.plain (OpenSpec.upto textstrJoinsSpec)) textstrJoinsUptoCard

/-- THE SECOND FORM's CARD OF 'brindlewoodlaw4.TextstrReplaced'. -/
def textstrReplacedUptoCard : Claim7 := { stood := { row := textstrReplacedUptoRow, standIns := [], harness := (true, "7c42656ca6107d72cb28d3d3963def4b9d56975ab905109fc36d7a11b16d1b7e"), looks := false }, kinds := [], alts := [], laidByText := true, laidKinds := [.data, .pinned], laidTests := true, laidLooks := .later }
def TextstrReplacedUptoCardSaid : Prop := Claim7.holds Tryd.pinned (.plain (OpenSpec.upto textstrReplacedSpec)) textstrReplacedUptoCard

/-- THE SECOND FORM's CARD OF 'brindlewoodlaw4.TextstrSplits'. -/
def textstrSplitsUptoCard : Claim7 := { stood := { row := textstrSplitsUptoRow, standIns := [], harness := (true, "7c42656ca6107d72cb28d3d3963def4b9d56975ab905109fc36d7a11b16d1b7e"), looks := false }, kinds := [], alts := [], laidByText := true, laidKinds := [.data, .pinned], laidTests := true, laidLooks := .later }
def TextstrSplitsUptoCardSaid : Prop := Claim7.holds Tryd.pinned (.plain (OpenSpec.upto textstrSplitsSpec)) textstrSplitsUptoCard

/-- THE SECOND FORM's CARD OF 'brindlewoodlaw4.TextstrRejoins'. -/
def textstrRejoinsUptoCard : Claim7 := { stood := { row := textstrRejoinsUptoRow, standIns := [], harness := (true, "7c42656ca6107d72cb28d3d3963def4b9d56975ab905109fc36d7a11b16d1b7e"), looks := false }, kinds := [], alts := [], laidByText := true, laidKinds := [.data, .pinned], laidTests := true, laidLooks := .later }
def TextstrRejoinsUptoCardSaid : Prop := Claim7.holds Tryd.pinned (.plain (OpenSpec.upto textstrRejoinsSpec)) textstrRejoinsUptoCard

/-- THE SECOND FORM's CARD OF 'brindlewoodlaw4.TextstrSides'. -/
def textstrSidesUptoCard : Claim7 := { stood := { row := textstrSidesUptoRow, standIns := [], harness := (true, "7c42656ca6107d72cb28d3d3963def4b9d56975ab905109fc36d7a11b16d1b7e"), looks := false }, kinds := [], alts := [], laidByText := true, laidKinds := [.data, .pinned], laidTests := true, laidLooks := .later }
def TextstrSidesUptoCardSaid : Prop := Claim7.holds Tryd.pinned (.plain (OpenSpec.upto textstrSidesSpec)) textstrSidesUptoCard
end Rows
end Go.Proofs.YtkmcegicngjhbaaDoor
