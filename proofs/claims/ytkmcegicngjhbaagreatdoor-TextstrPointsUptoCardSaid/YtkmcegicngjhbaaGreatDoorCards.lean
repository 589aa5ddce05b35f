/-
  DERIVED. GIVEN WITH THE SEED: THE CARDS: each row of YtkmcegicngjhbaaGreatDoorRows.lean that lists a variable, with what it lists TIED to the program's text (the seventh form; the later family's looks); each row that meets fmt, with fmt's text TOLD by the authors' own Lean function (tested against real Go, not proved from fmt's source: count such statements apart). THE CARD IS WHAT COUNTS. Prove the row's statement (the work); the ties are given (YtkmcegicngjhbaaGreatDoorTie.lean); close each card by the builder's one call (the guide's Derived/Test/ToyasCard.lean, 'card_holds'). Laid BY PROGRAM, IN A SANDBOX (cutbox-door.mjs). By AI agents, Wed Nov 11 2026. No macro, syntax, notation, axiom, sorry.
-/
import Derived.Test.YtkmcegicngjhbaaGreatDoorRows
import GoSem.ClaimSeven
namespace Go.Proofs.YtkmcegicngjhbaaGreatDoor
namespace Rows

/-- THE TIED CARD OF 'brindlewoodlaw4.TextstrPoints'. -/
def textstrPointsCard : Claim7 := { stood := { row := textstrPointsRow, standIns := [], harness := (true, "e03027526b5546d30a3a2f675f3301f592f70f48efbcc6f585dfb0b8ae85962b"), looks := false }, kinds := [], alts := [], laidByText := true, laidKinds := [.data, .pinned], laidTests := true, laidLooks := .later }
def TextstrPointsCardSaid : Prop := Claim7.holds Tryz.pinned (.plain (OpenSpec.ofChange textstrPointsSpec)) textstrPointsCard

/-- THE SECOND FORM's CARD OF 'brindlewoodlaw4.TextstrPoints'. -/
def textstrPointsUptoCard : Claim7 := { stood := { row := textstrPointsUptoRow, standIns := [], harness := (true, "e03027526b5546d30a3a2f675f3301f592f70f48efbcc6f585dfb0b8ae85962b"), looks := false }, kinds := [], alts := [], laidByText := true, laidKinds := [.data, .pinned], laidTests := true, laidLooks := .later }
def TextstrPointsUptoCardSaid : Prop := Claim7.holds Tryz.pinned (.plain (OpenSpec.upto textstrPointsSpec)) textstrPointsUptoCard
end Rows
end Go.Proofs.YtkmcegicngjhbaaGreatDoor
