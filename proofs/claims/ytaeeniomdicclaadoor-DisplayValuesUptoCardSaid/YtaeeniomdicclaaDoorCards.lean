/-
  DERIVED. GIVEN WITH THE SEED: THE CARDS: each row of YtaeeniomdicclaaDoorRows.lean that lists a variable, with what it lists TIED to the program's text (the seventh form; the later family's looks); each row that meets fmt, with fmt's text TOLD by the authors' own Lean function (tested against real Go, not proved from fmt's source: count such statements apart). THE CARD IS WHAT COUNTS. Prove the row's statement (the work); the ties are given (YtaeeniomdicclaaDoorTie.lean); close each card by the builder's one call (the guide's Derived/Test/ToyasCard.lean, 'card_holds'). Laid BY PROGRAM, IN A SANDBOX (cutbox-door.mjs). By AI agents, Wed Nov 11 2026. No macro, syntax, notation, axiom, sorry.
-/
import Derived.Test.YtaeeniomdicclaaDoorRows
import GoSem.ClaimSeven
namespace Go.Proofs.YtaeeniomdicclaaDoor
namespace Rows

/-- THE TIED CARD OF 'brindlewoodlaw4.DisplayQuotes'. -/
def displayQuotesCard : Claim7 := { stood := { row := displayQuotesRow, standIns := [], harness := (true, "aa74a684ce233866cbdd1d2a11f2b15922b4b5b0e57bdf58452cd7b21a530aa0"), looks := true }, kinds := [], alts := [], laidByText := true, laidKinds := [.data, .pinned], laidTests := true, laidLooks := .later }
def DisplayQuotesCardSaid : Prop := Claim7.holds Tryd.pinned (.plain (OpenSpec.ofChange displayQuotesSpec)) displayQuotesCard

/-- THE TIED CARD OF 'brindlewoodlaw4.DisplayApart'. -/
def displayApartCard : Claim7 := { stood := { row := displayApartRow, standIns := [], harness := (true, "aa74a684ce233866cbdd1d2a11f2b15922b4b5b0e57bdf58452cd7b21a530aa0"), looks := true }, kinds := [], alts := [], laidByText := true, laidKinds := [.data, .pinned], laidTests := true, laidLooks := .later }
def DisplayApartCardSaid : Prop := Claim7.holds Tryd.pinned (.plain (OpenSpec.ofChange displayApartSpec)) displayApartCard

/-- THE TIED CARD OF 'brindlewoodlaw4.DisplayValues'. -/
def displayValuesCard : Claim7 := { stood := { row := displayValuesRow, standIns := [], harness := (true, "aa74a684ce233866cbdd1d2a11f2b15922b4b5b0e57bdf58452cd7b21a530aa0"), looks := true }, kinds := [], alts := [], laidByText := true, laidKinds := [.data, .pinned], laidTests := true, laidLooks := .later }
def DisplayValuesCardSaid : Prop := Claim7.holds Tryd.pinned (.plain (OpenSpec.ofChange displayValuesSpec)) displayValuesCard

/-- THE SECOND FORM's CARD OF 'brindlewoodlaw4.DisplayQuotes'. -/
def displayQuotesUptoCard : Claim7 := { stood := { row := displayQuotesUptoRow, standIns := [], harness := (true, "aa74a684ce233866cbdd1d2a11f2b15922b4b5b0e57bdf58452cd7b21a530aa0"), looks := true }, kinds := [], alts := [], laidByText := true, laidKinds := [.data, .pinned], laidTests := true, laidLooks := .later }
def DisplayQuotesUptoCardSaid : Prop := Claim7.holds Tryd.pinned (.plain (OpenSpec.upto displayQuotesSpec)) displayQuotesUptoCard

/-- THE SECOND FORM's CARD OF 'brindlewoodlaw4.DisplayApart'. -/
def displayApartUptoCard : Claim7 := { stood := { row := displayApartUptoRow, standIns := [], harness := (true, "aa74a684ce233866cbdd1d2a11f2b15922b4b5b0e57bdf58452cd7b21a530aa0"), looks := true }, kinds := [], alts := [], laidByText := true, laidKinds := [.data, .pinned], laidTests := true, laidLooks := .later }
def DisplayApartUptoCardSaid : Prop := Claim7.holds Tryd.pinned (.plain (OpenSpec.upto displayApartSpec)) displayApartUptoCard

/-- THE SECOND FORM's CARD OF 'brindlewoodlaw4.DisplayValues'. -/
def displayValuesUptoCard : Claim7 := { stood := { row := displayValuesUptoRow, standIns := [], harness := (true, "aa74a684ce233866cbdd1d2a11f2b15922b4b5b0e57bdf58452cd7b21a530aa0"), looks := true }, kinds := [], alts := [], laidByText := true, laidKinds := [.data, .pinned], laidTests := true, laidLooks := .later }
def DisplayValuesUptoCardSaid : Prop := Claim7.holds Tryd.pinned (.plain (OpenSpec.upto displayValuesSpec)) displayValuesUptoCard
end Rows
end Go.Proofs.YtaeeniomdicclaaDoor
