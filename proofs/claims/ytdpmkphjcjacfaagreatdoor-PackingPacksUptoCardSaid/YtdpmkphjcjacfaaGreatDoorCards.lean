/-
  DERIVED. GIVEN WITH THE SEED: THE CARDS: each row of YtdpmkphjcjacfaaGreatDoorRows.lean that lists a variable, with what it lists TIED to the program's text (the seventh form; the later family's looks); each row that meets fmt, with fmt's text TOLD by the authors' own Lean function (tested against real Go, not proved from fmt's source: count such statements apart). THE CARD IS WHAT COUNTS. Prove the row's statement (the work); the ties are given (YtdpmkphjcjacfaaGreatDoorTie.lean); close each card by the builder's one call (the guide's Derived/Test/ToyasCard.lean, 'card_holds'). Laid BY PROGRAM, IN A SANDBOX (cutbox-door.mjs). By AI agents, Wed Nov 11 2026. No macro, syntax, notation, axiom, sorry.
-/
import Derived.Test.YtdpmkphjcjacfaaGreatDoorRows
import GoSem.ClaimSeven
namespace Go.Proofs.YtdpmkphjcjacfaaGreatDoor
namespace Rows

/-- THE TIED CARD OF 'brindlewoodlaw4.PackingUnpacks'. -/
def packingUnpacksCard : Claim7 := { stood := { row := packingUnpacksRow, standIns := [], harness := (true, "48438208ee5d8a73c967165093a53008d791f0014081560c6a08c26489265a0a"), looks := true }, kinds := [], alts := [], laidByText := true, laidKinds := [.data, .data, .data, .data, .sentinel, .sentinel, .pinned], laidTests := true, laidLooks := .later }
def PackingUnpacksCardSaid : Prop := Claim7.holds Tryz.pinned (.plain (OpenSpec.ofChange packingUnpacksSpec)) packingUnpacksCard

/-- THE TIED CARD OF 'brindlewoodlaw4.PackingPacks'. -/
def packingPacksCard : Claim7 := { stood := { row := packingPacksRow, standIns := [], harness := (true, "48438208ee5d8a73c967165093a53008d791f0014081560c6a08c26489265a0a"), looks := true }, kinds := [], alts := [], laidByText := true, laidKinds := [.data, .data, .data, .data, .sentinel, .sentinel, .pinned], laidTests := true, laidLooks := .later }
def PackingPacksCardSaid : Prop := Claim7.holds Tryz.pinned (.plain (OpenSpec.ofChange packingPacksSpec)) packingPacksCard

/-- THE SECOND FORM's CARD OF 'brindlewoodlaw4.PackingUnpacks'. -/
def packingUnpacksUptoCard : Claim7 := { stood := { row := packingUnpacksUptoRow, standIns := [], harness := (true, "48438208ee5d8a73c967165093a53008d791f0014081560c6a08c26489265a0a"), looks := true }, kinds := [], alts := [], laidByText := true, laidKinds := [.data, .data, .data, .data, .sentinel, .sentinel, .pinned], laidTests := true, laidLooks := .later }
def PackingUnpacksUptoCardSaid : Prop := Claim7.holds Tryz.pinned (.plain (OpenSpec.upto packingUnpacksSpec)) packingUnpacksUptoCard

/-- THE SECOND FORM's CARD OF 'brindlewoodlaw4.PackingPacks'. -/
def packingPacksUptoCard : Claim7 := { stood := { row := packingPacksUptoRow, standIns := [], harness := (true, "48438208ee5d8a73c967165093a53008d791f0014081560c6a08c26489265a0a"), looks := true }, kinds := [], alts := [], laidByText := true, laidKinds := [.data, .data, .data, .data, .sentinel, .sentinel, .pinned], laidTests := true, laidLooks := .later }
def PackingPacksUptoCardSaid : Prop := Claim7.holds Tryz.pinned (.plain (OpenSpec.upto packingPacksSpec)) packingPacksUptoCard
end Rows
end Go.Proofs.YtdpmkphjcjacfaaGreatDoor
