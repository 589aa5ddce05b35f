/-
  DERIVED. GIVEN WITH THE SEED: THE CARDS: each row of YtmpmeiihjnnomaaGreatDoorRows.lean that lists a variable, with what it lists TIED to the program's text (the seventh form; the later family's looks); each row that meets fmt, with fmt's text TOLD by the authors' own Lean function (tested against real Go, not proved from fmt's source: count such statements apart). THE CARD IS WHAT COUNTS. Prove the row's statement (the work); the ties are given (YtmpmeiihjnnomaaGreatDoorTie.lean); close each card by the builder's one call (the guide's Derived/Test/ToyasCard.lean, 'card_holds'). Laid BY PROGRAM, IN A SANDBOX (cutbox-door.mjs). By AI agents, Wed Nov 11 2026. No macro, syntax, notation, axiom, sorry.
-/
import Derived.Test.YtmpmeiihjnnomaaGreatDoorRows
import GoSem.ClaimSeven
namespace Go.Proofs.YtmpmeiihjnnomaaGreatDoor
namespace Rows

/-- THE TIED CARD OF 'brindlewoodlaw4.RematchGreedy'. -/
def rematchGreedyCard : Claim7 := { stood := { row := rematchGreedyRow, standIns := [], harness := (true, "96d1ac6531d81655380ad15f762a309b46f327e5bcf073b425e876092939f196"), looks := true }, kinds := [], alts := [], laidByText := true, laidKinds := [.data, .data, .data, .data, .sentinel, .sentinel, .pinned], laidTests := true, laidLooks := .later }
def RematchGreedyCardSaid : Prop := Claim7.holds Tryz.pinned (.plain (OpenSpec.ofChange rematchGreedySpec)) rematchGreedyCard

/-- THE TIED CARD OF 'brindlewoodlaw4.RematchLooks'. -/
def rematchLooksCard : Claim7 := { stood := { row := rematchLooksRow, standIns := [], harness := (true, "96d1ac6531d81655380ad15f762a309b46f327e5bcf073b425e876092939f196"), looks := true }, kinds := [], alts := [], laidByText := true, laidKinds := [.data, .data, .data, .data, .sentinel, .sentinel, .pinned], laidTests := true, laidLooks := .later }
def RematchLooksCardSaid : Prop := Claim7.holds Tryz.pinned (.plain (OpenSpec.ofChange rematchLooksSpec)) rematchLooksCard

/-- THE TIED CARD OF 'brindlewoodlaw4.RematchFinds'. -/
def rematchFindsCard : Claim7 := { stood := { row := rematchFindsRow, standIns := [], harness := (true, "96d1ac6531d81655380ad15f762a309b46f327e5bcf073b425e876092939f196"), looks := true }, kinds := [], alts := [], laidByText := true, laidKinds := [.data, .data, .data, .data, .sentinel, .sentinel, .pinned], laidTests := true, laidLooks := .later }
def RematchFindsCardSaid : Prop := Claim7.holds Tryz.pinned (.plain (OpenSpec.ofChange rematchFindsSpec)) rematchFindsCard

/-- THE TIED CARD OF 'brindlewoodlaw4.RematchReplaces'. -/
def rematchReplacesCard : Claim7 := { stood := { row := rematchReplacesRow, standIns := [], harness := (true, "96d1ac6531d81655380ad15f762a309b46f327e5bcf073b425e876092939f196"), looks := true }, kinds := [], alts := [], laidByText := true, laidKinds := [.data, .data, .data, .data, .sentinel, .sentinel, .pinned], laidTests := true, laidLooks := .later }
def RematchReplacesCardSaid : Prop := Claim7.holds Tryz.pinned (.plain (OpenSpec.ofChange rematchReplacesSpec)) rematchReplacesCard

/-- THE TIED CARD OF 'brindlewoodlaw4.RematchPieced'. -/
def rematchPiecedCard : Claim7 := { stood := { row := rematchPiecedRow, standIns := [], harness := (true, "96d1ac6531d81655380ad15f762a309b46f327e5bcf073b425e876092939f196"), looks := true }, kinds := [], alts := [], laidByText := true, laidKinds := [.data, .data, .data, .data, .sentinel, .sentinel, .pinned], laidTests := true, laidLooks := .later }
def RematchPiecedCardSaid : Prop := Claim7.holds Tryz.pinned (.plain (OpenSpec.ofChange rematchPiecedSpec)) rematchPiecedCard

/-- THE TIED CARD OF 'brindlewoodlaw4.RematchFixed'. -/
def rematchFixedCard : Claim7 := { stood := { row := rematchFixedRow, standIns := [], harness := (true, "96d1ac6531d81655380ad15f762a309b46f327e5bcf073b425e876092939f196"), looks := true }, kinds := [], alts := [], laidByText := true, laidKinds := [.data, .data, .data, .data, .sentinel, .sentinel, .pinned], laidTests := true, laidLooks := .later }
def RematchFixedCardSaid : Prop := Claim7.holds Tryz.pinned (.plain (OpenSpec.ofChange rematchFixedSpec)) rematchFixedCard

/-- THE SECOND FORM's CARD OF 'brindlewoodlaw4.RematchGreedy'. -/
def rematchGreedyUptoCard : Claim7 := { stood := { row := rematchGreedyUptoRow, standIns := [], harness := (true, "96d1ac6531d81655380ad15f762a309b46f327e5bcf073b425e876092939f196"), looks := true }, kinds := [], alts := [], laidByText := true, laidKinds := [.data, .data, .data, .data, .sentinel, .sentinel, .pinned], laidTests := true, laidLooks := .later }
def RematchGreedyUptoCardSaid : Prop := Claim7.holds Tryz.pinned (.plain (OpenSpec.upto rematchGreedySpec)) rematchGreedyUptoCard

/-- THE SECOND FORM's CARD OF 'brindlewoodlaw4.RematchLooks'. -/
def rematchLooksUptoCard : Claim7 := { stood := { row := rematchLooksUptoRow, standIns := [], harness := (true, "96d1ac6531d81655380ad15f762a309b46f327e5bcf073b425e876092939f196"), looks := true }, kinds := [], alts := [], laidByText := true, laidKinds := [.data, .data, .data, .data, .sentinel, .sentinel, .pinned], laidTests := true, laidLooks := .later }
def RematchLooksUptoCardSaid : Prop := Claim7.holds Tryz.pinned (.plain (OpenSpec.upto rematchLooksSpec)) rematchLooksUptoCard

/-- THE SECOND FORM's CARD OF 'brindlewoodlaw4.RematchFinds'. -/
def rematchFindsUptoCard : Claim7 := { stood := { row := rematchFindsUptoRow, standIns := [], harness := (true, "96d1ac6531d81655380ad15f762a309b46f327e5bcf073b425e876092939f196"), looks := true }, kinds := [], alts := [], laidByText := true, laidKinds := [.data, .data, .data, .data, .sentinel, .sentinel, .pinned], laidTests := true, laidLooks := .later }
def RematchFindsUptoCardSaid : Prop := Claim7.holds Tryz.pinned (.plain (OpenSpec.upto rematchFindsSpec)) rematchFindsUptoCard

/-- THE SECOND FORM's CARD OF 'brindlewoodlaw4.RematchReplaces'. -/
def rematchReplacesUptoCard : Claim7 := { stood := { row := rematchReplacesUptoRow, standIns := [], harness := (true, "96d1ac6531d81655380ad15f762a309b46f327e5bcf073b425e876092939f196"), looks := true }, kinds := [], alts := [], laidByText := true, laidKinds := [.data, .data, .data, .data, .sentinel, .sentinel, .pinned], laidTests := true, laidLooks := .later }
def RematchReplacesUptoCardSaid : Prop := Claim7.holds Tryz.pinned (.plain (OpenSpec.upto rematchReplacesSpec)) rematchReplacesUptoCard

/-- THE SECOND FORM's CARD OF 'brindlewoodlaw4.RematchPieced'. -/
def rematchPiecedUptoCard : Claim7 := { stood := { row := rematchPiecedUptoRow, standIns := [], harness := (true, "96d1ac6531d81655380ad15f762a309b46f327e5bcf073b425e876092939f196"), looks := true }, kinds := [], alts := [], laidByText := true, laidKinds := [.data, .data, .data, .data, .sentinel, .sentinel, .pinned], laidTests := true, laidLooks := .later }
def RematchPiecedUptoCardSaid : Prop := Claim7.holds Tryz.pinned (.plain (OpenSpec.upto rematchPiecedSpec)) rematchPiecedUptoCard

/-- THE SECOND FORM's CARD OF 'brindlewoodlaw4.RematchFixed'. -/
def rematchFixedUptoCard : Claim7 := { stood := { row := rematchFixedUptoRow, standIns := [], harness := (true, "96d1ac6531d81655380ad15f762a309b46f327e5bcf073b425e876092939f196"), looks := true }, kinds := [], alts := [], laidByText := true, laidKinds := [.data, .data, .data, .data, .sentinel, .sentinel, .pinned], laidTests := true, laidLooks := .later }
def RematchFixedUptoCardSaid : Prop := Claim7.holds Tryz.pinned (.plain (OpenSpec.upto rematchFixedSpec)) rematchFixedUptoCard
end Rows
end Go.Proofs.YtmpmeiihjnnomaaGreatDoor
