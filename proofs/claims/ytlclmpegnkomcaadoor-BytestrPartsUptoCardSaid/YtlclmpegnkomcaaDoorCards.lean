/-
  DERIVED. GIVEN WITH THE SEED: THE CARDS: each row of YtlclmpegnkomcaaDoorRows.lean that lists a variable, with what it lists TIED to the program's text (the seventh form; the later family's looks); each row that meets fmt, with fmt's text TOLD by the authors' own Lean function (tested against real Go, not proved from fmt's source: count such statements apart). THE CARD IS WHAT COUNTS. Prove the row's statement (the work); the ties are given (YtlclmpegnkomcaaDoorTie.lean); close each card by the builder's one call (the guide's Derived/Test/ToyasCard.lean, 'card_holds'). Laid BY PROGRAM, IN A SANDBOX (cutbox-door.mjs). By AI agents, Wed Nov 11 2026. No macro, syntax, notation, axiom, sorry.
-/
import Derived.Test.YtlclmpegnkomcaaDoorRows
import GoSem.ClaimSeven
namespace Go.Proofs.YtlclmpegnkomcaaDoor
namespace Rows

/-- THE TIED CARD OF 'brindlewoodlaw4.BytestrTranslates'. -/
def bytestrTranslatesCard : Claim7 := { stood := { row := bytestrTranslatesRow, standIns := [], harness := (true, "dc43db541edd0e9db4ae88c23ae220f822557e4ff05a17f191ac5ddf5735d5fc"), looks := false }, kinds := [], alts := [], laidByText := true, laidKinds := [.data, .pinned], laidTests := true, laidLooks := .later }
def BytestrTranslatesCardSaid : Prop := Claim7.holds Tryd.pinned (.plain (OpenSpec.ofChange bytestrTranslatesSpec)) bytestrTranslatesCard

/-- THE TIED CARD OF 'brindlewoodlaw4.BytestrDigits'. -/
def bytestrDigitsCard : Claim7 := { stood := { row := bytestrDigitsRow, standIns := [], harness := (true, "dc43db541edd0e9db4ae88c23ae220f822557e4ff05a17f191ac5ddf5735d5fc"), looks := false }, kinds := [], alts := [], laidByText := true, laidKinds := [.data, .pinned], laidTests := true, laidLooks := .later }
def BytestrDigitsCardSaid : Prop := Claim7.holds Tryd.pinned (.plain (OpenSpec.ofChange bytestrDigitsSpec)) bytestrDigitsCard

/-- THE TIED CARD OF 'brindlewoodlaw4.BytestrCodes'. -/
def bytestrCodesCard : Claim7 := { stood := { row := bytestrCodesRow, standIns := [], harness := (true, "dc43db541edd0e9db4ae88c23ae220f822557e4ff05a17f191ac5ddf5735d5fc"), looks := false }, kinds := [], alts := [], laidByText := true, laidKinds := [.data, .pinned], laidTests := true, laidLooks := .later }
def BytestrCodesCardSaid : Prop := Claim7.holds Tryd.pinned (.plain (OpenSpec.ofChange bytestrCodesSpec)) bytestrCodesCard

/-- THE TIED CARD OF 'brindlewoodlaw4.BytestrBack'. -/
def bytestrBackCard : Claim7 := { stood := { row := bytestrBackRow, standIns := [], harness := (true, "dc43db541edd0e9db4ae88c23ae220f822557e4ff05a17f191ac5ddf5735d5fc"), looks := false }, kinds := [], alts := [], laidByText := true, laidKinds := [.data, .pinned], laidTests := true, laidLooks := .later }
def BytestrBackCardSaid : Prop := Claim7.holds Tryd.pinned (.plain (OpenSpec.ofChange bytestrBackSpec)) bytestrBackCard

/-- THE TIED CARD OF 'brindlewoodlaw4.BytestrRepaired'. -/
def bytestrRepairedCard : Claim7 := { stood := { row := bytestrRepairedRow, standIns := [], harness := (true, "dc43db541edd0e9db4ae88c23ae220f822557e4ff05a17f191ac5ddf5735d5fc"), looks := false }, kinds := [], alts := [], laidByText := true, laidKinds := [.data, .pinned], laidTests := true, laidLooks := .later }
def BytestrRepairedCardSaid : Prop := Claim7.holds Tryd.pinned (.plain (OpenSpec.ofChange bytestrRepairedSpec)) bytestrRepairedCard

/-- THE TIED CARD OF 'brindlewoodlaw4.BytestrParts'. -/
def bytestrPartsCard : Claim7 := { stood := { row := bytestrPartsRow, standIns := [], harness := (true, "dc43db541edd0e9db4ae88c23ae220f822557e4ff05a17f191ac5ddf5735d5fc"), looks := false }, kinds := [], alts := [], laidByText := true, laidKinds := [.data, .pinned], laidTests := true, laidLooks := .later }
def BytestrPartsCardSaid : Prop := Claim7.holds Tryd.pinned (.plain (OpenSpec.ofChange bytestrPartsSpec)) bytestrPartsCard

/-- THE SECOND FORM's CARD OF 'brindlewoodlaw4.BytestrTranslates'. -/
def bytestrTranslatesUptoCard : Claim7 := { stood := { row := bytestrTranslatesUptoRow, standIns := [], harness := (true, "dc43db541edd0e9db4ae88c23ae220f822557e4ff05a17f191ac5ddf5735d5fc"), looks := false }, kinds := [], alts := [], laidByText := true, laidKinds := [.data, .pinned], laidTests := true, laidLooks := .later }
def BytestrTranslatesUptoCardSaid : Prop := Claim7.holds Tryd.pinned (.plain (OpenSpec.upto bytestrTranslatesSpec)) bytestrTranslatesUptoCard

/-- THE SECOND FORM's CARD OF 'brindlewoodlaw4.BytestrDigits'. -/
def bytestrDigitsUptoCard : Claim7 := { stood := { row := bytestrDigitsUptoRow, standIns := [], harness := (true, "dc43db541edd0e9db4ae88c23ae220f822557e4ff05a17f191ac5ddf5735d5fc"), looks := false }, kinds := [], alts := [], laidByText := true, laidKinds := [.data, .pinned], laidTests := true, laidLooks := .later }
def BytestrDigitsUptoCardSaid : Prop := Claim7.holds Tryd.pinned (.plain (OpenSpec.upto bytestrDigitsSpec)) bytestrDigitsUptoCard

/-- THE SECOND FORM's CARD OF 'brindlewoodlaw4.BytestrCodes'. -/
def bytestrCodesUptoCard : Claim7 := { stood := { row := bytestrCodesUptoRow, standIns := [], harness := (true, "dc43db541edd0e9db4ae88c23ae220f822557e4ff05a17f191ac5ddf5735d5fc"), looks := false }, kinds := [], alts := [], laidByText := true, laidKinds := [.data, .pinned], laidTests := true, laidLooks := .later }
def BytestrCodesUptoCardSaid : Prop := Claim7.holds Tryd.pinned (.plain (OpenSpec.upto bytestrCodesSpec)) bytestrCodesUptoCard

/-- THE SECOND FORM's CARD OF 'brindlewoodlaw4.BytestrBack'. -/
def bytestrBackUptoCard : Claim7 := { stood := { row := bytestrBackUptoRow, standIns := [], harness := (true, "dc43db541edd0e9db4ae88c23ae220f822557e4ff05a17f191ac5ddf5735d5fc"), looks := false }, kinds := [], alts := [], laidByText := true, laidKinds := [.data, .pinned], laidTests := true, laidLooks := .later }
def BytestrBackUptoCardSaid : Prop := Claim7.holds Tryd.pinned (.plain (OpenSpec.upto bytestrBackSpec)) bytestrBackUptoCard

/-- THE SECOND FORM's CARD OF 'brindlewoodlaw4.BytestrRepaired'. -/
def bytestrRepairedUptoCard : Claim7 := { stood := { row := bytestrRepairedUptoRow, standIns := [], harness := (true, "dc43db541edd0e9db4ae88c23ae220f822557e4ff05a17f191ac5ddf5735d5fc"), looks := false }, kinds := [], alts := [], laidByText := true, laidKinds := [.data, .pinned], laidTests := true, laidLooks := .later }
def BytestrRepairedUptoCardSaid : Prop := Claim7.holds Tryd.pinned (.plain (OpenSpec.upto bytestrRepairedSpec)) bytestrRepairedUptoCard

/-- THE SECOND FORM's CARD OF 'brindlewoodlaw4.BytestrParts'. -/
def bytestrPartsUptoCard : Claim7 := { stood := { row := bytestrPartsUptoRow, standIns := [], harness := (true, "dc43db541edd0e9db4ae88c23ae220f822557e4ff05a17f191ac5ddf5735d5fc"), looks := false }, kinds := [], alts := [], laidByText := true, laidKinds := [.data, .pinned], laidTests := true, laidLooks := .later }
def BytestrPartsUptoCardSaid : Prop := Claim7.holds Tryd.pinned (.plain (OpenSpec.upto bytestrPartsSpec)) bytestrPartsUptoCard
end Rows
end Go.Proofs.YtlclmpegnkomcaaDoor
