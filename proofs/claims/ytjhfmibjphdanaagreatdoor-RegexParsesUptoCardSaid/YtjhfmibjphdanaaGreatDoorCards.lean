/-
  DERIVED. GIVEN WITH THE SEED: THE CARDS: each row of YtjhfmibjphdanaaGreatDoorRows.lean that lists a variable, with what it lists TIED to the program's text (the seventh form; the later family's looks); each row that meets fmt, with fmt's text TOLD by the authors' own Lean function (tested against real Go, not proved from fmt's source: count such statements apart). THE CARD IS WHAT COUNTS. Prove the row's statement (the work); the ties are given (YtjhfmibjphdanaaGreatDoorTie.lean); close each card by the builder's one call (the guide's Derived/Test/ToyasCard.lean, 'card_holds'). Laid BY PROGRAM, IN A SANDBOX (cutbox-door.mjs). By AI agents, Wed Nov 11 2026. No macro, syntax, notation, axiom, sorry.
-/
import Derived.Test.YtjhfmibjphdanaaGreatDoorRows
import GoSem.ClaimSeven
namespace Go.Proofs.YtjhfmibjphdanaaGreatDoor
namespace Rows

/-- THE TIED CARD OF 'brindlewoodlaw4.RegexPrints'. -/
def regexPrintsCard : Claim7 := { stood := { row := regexPrintsRow, standIns := [], harness := (true, "b145deadadbcf52846c80623a1bb2ab4c6b5e49a767fccdab8ff361af8d67e48"), looks := true }, kinds := [], alts := [], laidByText := true, laidKinds := [.data, .data, .data, .data, .sentinel, .sentinel, .pinned], laidTests := true, laidLooks := .later }
def RegexPrintsCardSaid : Prop := Claim7.holds Tryz.pinned (.plain (OpenSpec.ofChange regexPrintsSpec)) regexPrintsCard

/-- THE TIED CARD OF 'brindlewoodlaw4.RegexParses'. -/
def regexParsesCard : Claim7 := { stood := { row := regexParsesRow, standIns := [], harness := (true, "b145deadadbcf52846c80623a1bb2ab4c6b5e49a767fccdab8ff361af8d67e48"), looks := true }, kinds := [], alts := [], laidByText := true, laidKinds := [.data, .data, .data, .data, .sentinel, .sentinel, .pinned], laidTests := true, laidLooks := .later }
def RegexParsesCardSaid : Prop := Claim7.holds Tryz.pinned (.plain (OpenSpec.ofChange regexParsesSpec)) regexParsesCard

/-- THE TIED CARD OF 'brindlewoodlaw4.RegexSettled'. -/
def regexSettledCard : Claim7 := { stood := { row := regexSettledRow, standIns := [], harness := (true, "b145deadadbcf52846c80623a1bb2ab4c6b5e49a767fccdab8ff361af8d67e48"), looks := true }, kinds := [], alts := [], laidByText := true, laidKinds := [.data, .data, .data, .data, .sentinel, .sentinel, .pinned], laidTests := true, laidLooks := .later }
def RegexSettledCardSaid : Prop := Claim7.holds Tryz.pinned (.plain (OpenSpec.ofChange regexSettledSpec)) regexSettledCard

/-- THE SECOND FORM's CARD OF 'brindlewoodlaw4.RegexPrints'. -/
def regexPrintsUptoCard : Claim7 := { stood := { row := regexPrintsUptoRow, standIns := [], harness := (true, "b145deadadbcf52846c80623a1bb2ab4c6b5e49a767fccdab8ff361af8d67e48"), looks := true }, kinds := [], alts := [], laidByText := true, laidKinds := [.data, .data, .data, .data, .sentinel, .sentinel, .pinned], laidTests := true, laidLooks := .later }
def RegexPrintsUptoCardSaid : Prop := Claim7.holds Tryz.pinned (.plain (OpenSpec.upto regexPrintsSpec)) regexPrintsUptoCard

/-- THE SECOND FORM's CARD OF 'brindlewoodlaw4.RegexParses'. -/
def regexParsesUptoCard : Claim7 := { stood := { row := regexParsesUptoRow, standIns := [], harness := (true, "b145deadadbcf52846c80623a1bb2ab4c6b5e49a767fccdab8ff361af8d67e48"), looks := true }, kinds := [], alts := [], laidByText := true, laidKinds := [.data, .data, .data, .data, .sentinel, .sentinel, .pinned], laidTests := true, laidLooks := .later }
def RegexParsesUptoCardSaid : Prop := Claim7.holds Tryz.pinned (.plain (OpenSpec.upto regexParsesSpec)) regexParsesUptoCard

/-- THE SECOND FORM's CARD OF 'brindlewoodlaw4.RegexSettled'. -/
def regexSettledUptoCard : Claim7 := { stood := { row := regexSettledUptoRow, standIns := [], harness := (true, "b145deadadbcf52846c80623a1bb2ab4c6b5e49a767fccdab8ff361af8d67e48"), looks := true }, kinds := [], alts := [], laidByText := true, laidKinds := [.data, .data, .data, .data, .sentinel, .sentinel, .pinned], laidTests := true, laidLooks := .later }
def RegexSettledUptoCardSaid : Prop := Claim7.holds Tryz.pinned (.plain (OpenSpec.upto regexSettledSpec)) regexSettledUptoCard
end Rows
end Go.Proofs.YtjhfmibjphdanaaGreatDoor
