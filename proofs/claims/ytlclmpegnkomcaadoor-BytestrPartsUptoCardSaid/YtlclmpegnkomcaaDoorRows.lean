/-
  NARROWER THAN 'FOR EVERY INPUT', by the rows' own cells (each row's printed sentence says how): BytestrTranslates: laid · BytestrDigits: laid · BytestrCodes: laid · BytestrBack: laid · BytestrRepaired: laid · BytestrParts: laid.
  DERIVED. THE GIVEN ROWS OF THIS SEAT. 6 by the template 'for every input the law returns true; each argument reads behind the call as it read before'; 0 by the template 'total and deterministic' (their statements: YtlclmpegnkomcaaDoorTotals.lean).
  GIVEN WITH THE SEED: the statements are not yours to turn. If you find one false, say at which input.
  Laid BY PROGRAM, IN A SANDBOX (cutbox-rows.mjs): the forced cells as the released guide's own fill.sh prints them over the translation 4f3f2254e54beff7… (all of the seat's roots in one cut). By AI agents, Wed Nov 11 2026. No macro, syntax, notation, axiom, sorry.
-/
import Derived.Test.YtlclmpegnkomcaaDoorChecked
import GoSem.PinnedTables
import GoSem.Claim
import GoSem.ClaimJoined
import GoSem.ClaimMapViews
import Derived.JoinedTies
import Derived.KernelRfl
namespace Go.Proofs.YtlclmpegnkomcaaDoor
/- THE CELL 'sum', in the pinned program and in every row, IS THE sha256 OF THE DUMP (.gsa) THAT YtlclmpegnkomcaaDoorProg.lean LOADS. Nothing in Lean hashes anything: it is a label: what it is worth is what the hold of that sum in a sandbox is worth. -/
noncomputable def Tryd.pinned : Pinned := { name := "ytlclmpegnkomcaadoor", sum := "4f3f2254e54beff73b1b82fa5d5c98d9289070fa4fd7b5b82cda8ae4e4811162", checked := Tryd.checked }
namespace Rows
def none {H : Type} : Left H := { results := [], args := [] }

/- WHAT THE LISTED PACKAGE-LEVEL VARIABLES READ AS WHEN THE CALL BEGINS. Each datum BY PROGRAM (the guide's laid-datum.mjs) off the statement by which the dump's own 'gosem.cut.vars' lays the variable. In a bare row this is a premise. The card (YtlclmpegnkomcaaDoorCards.lean) ties it to the program's text. -/
def laid_unicode_utf8_acceptRanges {H : Type} : DataW H := .agg [.agg [.lit (.int .u8 128), .lit (.int .u8 191)], .agg [.lit (.int .u8 160), .lit (.int .u8 191)], .agg [.lit (.int .u8 128), .lit (.int .u8 159)], .agg [.lit (.int .u8 144), .lit (.int .u8 191)], .agg [.lit (.int .u8 128), .lit (.int .u8 143)], .agg [.lit (.int .u8 0), .lit (.int .u8 0)], .agg [.lit (.int .u8 0), .lit (.int .u8 0)], .agg [.lit (.int .u8 0), .lit (.int .u8 0)], .agg [.lit (.int .u8 0), .lit (.int .u8 0)], .agg [.lit (.int .u8 0), .lit (.int .u8 0)], .agg [.lit (.int .u8 0), .lit (.int .u8 0)], .agg [.lit (.int .u8 0), .lit (.int .u8 0)], .agg [.lit (.int .u8 0), .lit (.int .u8 0)], .agg [.lit (.int .u8 0), .lit (.int .u8 0)], .agg [.lit (.int .u8 0), .lit (.int .u8 0)], .agg [.lit (.int .u8 0), .lit (.int .u8 0)]]
/-- One of Go's own tables, pinned by name: the form's constant. -/
def laid_unicode_utf8_first : DataW Unit := Go.Pinned.utf8First

/-- 'brindlewoodlaw4.BytestrTranslates': WHATEVER THE INPUT: true; the input reads as it did. -/
def bytestrTranslatesSpec : ChangeSpec := { name := "bytestrTranslates", fn := fun _ => fun
  | [d1, d2, d3, d4, d5] => { results := [.lit (.bool true)], args := [d1, d2, d3, d4, d5] }
  | _ => none }
def bytestrTranslatesRow : OpenClaim := { program := "ytlclmpegnkomcaadoor", sum := "4f3f2254e54beff73b1b82fa5d5c98d9289070fa4fd7b5b82cda8ae4e4811162", func := "brindlewood/brindlewoodlaw4.BytestrTranslates", spec := "bytestrTranslates", inPlace := ["internal/bytealg.IndexByte", "internal/bytealg.MakeNoZero"], unfollowed := true, recurses := true, named := ["unicode/utf8.first", "unicode/utf8.acceptRanges"], apart := false, laid := [("unicode/utf8.acceptRanges", laid_unicode_utf8_acceptRanges), ("unicode/utf8.first", laid_unicode_utf8_first)] }
def BytestrTranslatesSaid : Prop := bytestrTranslatesRow.holds Tryd.pinned (OpenSpec.ofChange bytestrTranslatesSpec)

/-- ITS FALSE NEIGHBOUR: 'it returns false'. Refute it at one input. -/
def bytestrTranslatesWrong : ChangeSpec := { name := "bytestrTranslates", fn := fun _ => fun
  | [d1, d2, d3, d4, d5] => { results := [.lit (.bool false)], args := [d1, d2, d3, d4, d5] }
  | _ => none }
def BytestrTranslatesWrongFalsely : Prop := bytestrTranslatesRow.holds Tryd.pinned (OpenSpec.ofChange bytestrTranslatesWrong)

/-- 'brindlewoodlaw4.BytestrDigits': WHATEVER THE INPUT: true; the input reads as it did. -/
def bytestrDigitsSpec : ChangeSpec := { name := "bytestrDigits", fn := fun _ => fun
  | [d1, d2] => { results := [.lit (.bool true)], args := [d1, d2] }
  | _ => none }
def bytestrDigitsRow : OpenClaim := { program := "ytlclmpegnkomcaadoor", sum := "4f3f2254e54beff73b1b82fa5d5c98d9289070fa4fd7b5b82cda8ae4e4811162", func := "brindlewood/brindlewoodlaw4.BytestrDigits", spec := "bytestrDigits", inPlace := ["internal/bytealg.IndexByte"], unfollowed := true, recurses := true, named := ["unicode/utf8.first", "unicode/utf8.acceptRanges"], apart := false, laid := [("unicode/utf8.acceptRanges", laid_unicode_utf8_acceptRanges), ("unicode/utf8.first", laid_unicode_utf8_first)] }
def BytestrDigitsSaid : Prop := bytestrDigitsRow.holds Tryd.pinned (OpenSpec.ofChange bytestrDigitsSpec)

/-- ITS FALSE NEIGHBOUR: 'it returns false'. Refute it at one input. -/
def bytestrDigitsWrong : ChangeSpec := { name := "bytestrDigits", fn := fun _ => fun
  | [d1, d2] => { results := [.lit (.bool false)], args := [d1, d2] }
  | _ => none }
def BytestrDigitsWrongFalsely : Prop := bytestrDigitsRow.holds Tryd.pinned (OpenSpec.ofChange bytestrDigitsWrong)

/-- 'brindlewoodlaw4.BytestrCodes': WHATEVER THE INPUT: true; the input reads as it did. -/
def bytestrCodesSpec : ChangeSpec := { name := "bytestrCodes", fn := fun _ => fun
  | [d1, d2, d3, d4] => { results := [.lit (.bool true)], args := [d1, d2, d3, d4] }
  | _ => none }
def bytestrCodesRow : OpenClaim := { program := "ytlclmpegnkomcaadoor", sum := "4f3f2254e54beff73b1b82fa5d5c98d9289070fa4fd7b5b82cda8ae4e4811162", func := "brindlewood/brindlewoodlaw4.BytestrCodes", spec := "bytestrCodes", inPlace := ["internal/bytealg.IndexByte"], unfollowed := true, recurses := true, named := ["unicode/utf8.first", "unicode/utf8.acceptRanges"], apart := false, laid := [("unicode/utf8.acceptRanges", laid_unicode_utf8_acceptRanges), ("unicode/utf8.first", laid_unicode_utf8_first)] }
def BytestrCodesSaid : Prop := bytestrCodesRow.holds Tryd.pinned (OpenSpec.ofChange bytestrCodesSpec)

/-- ITS FALSE NEIGHBOUR: 'it returns false'. Refute it at one input. -/
def bytestrCodesWrong : ChangeSpec := { name := "bytestrCodes", fn := fun _ => fun
  | [d1, d2, d3, d4] => { results := [.lit (.bool false)], args := [d1, d2, d3, d4] }
  | _ => none }
def BytestrCodesWrongFalsely : Prop := bytestrCodesRow.holds Tryd.pinned (OpenSpec.ofChange bytestrCodesWrong)

/-- 'brindlewoodlaw4.BytestrBack': WHATEVER THE INPUT: true; the input reads as it did. -/
def bytestrBackSpec : ChangeSpec := { name := "bytestrBack", fn := fun _ => fun
  | [d1, d2, d3, d4] => { results := [.lit (.bool true)], args := [d1, d2, d3, d4] }
  | _ => none }
def bytestrBackRow : OpenClaim := { program := "ytlclmpegnkomcaadoor", sum := "4f3f2254e54beff73b1b82fa5d5c98d9289070fa4fd7b5b82cda8ae4e4811162", func := "brindlewood/brindlewoodlaw4.BytestrBack", spec := "bytestrBack", inPlace := ["internal/bytealg.IndexByte"], unfollowed := true, recurses := true, named := ["unicode/utf8.first", "unicode/utf8.acceptRanges"], apart := false, laid := [("unicode/utf8.acceptRanges", laid_unicode_utf8_acceptRanges), ("unicode/utf8.first", laid_unicode_utf8_first)] }
def BytestrBackSaid : Prop := bytestrBackRow.holds Tryd.pinned (OpenSpec.ofChange bytestrBackSpec)

/-- ITS FALSE NEIGHBOUR: 'it returns false'. Refute it at one input. -/
def bytestrBackWrong : ChangeSpec := { name := "bytestrBack", fn := fun _ => fun
  | [d1, d2, d3, d4] => { results := [.lit (.bool false)], args := [d1, d2, d3, d4] }
  | _ => none }
def BytestrBackWrongFalsely : Prop := bytestrBackRow.holds Tryd.pinned (OpenSpec.ofChange bytestrBackWrong)

/-- 'brindlewoodlaw4.BytestrRepaired': WHATEVER THE INPUT: true; the input reads as it did. -/
def bytestrRepairedSpec : ChangeSpec := { name := "bytestrRepaired", fn := fun _ => fun
  | [d1, d2] => { results := [.lit (.bool true)], args := [d1, d2] }
  | _ => none }
def bytestrRepairedRow : OpenClaim := { program := "ytlclmpegnkomcaadoor", sum := "4f3f2254e54beff73b1b82fa5d5c98d9289070fa4fd7b5b82cda8ae4e4811162", func := "brindlewood/brindlewoodlaw4.BytestrRepaired", spec := "bytestrRepaired", inPlace := ["internal/bytealg.IndexByte", "internal/bytealg.CountString", "internal/bytealg.IndexByteString", "internal/bytealg.IndexString", "internal/abi.NoEscape", "internal/bytealg.MakeNoZero"], unfollowed := true, recurses := true, named := ["unicode/utf8.first", "unicode/utf8.acceptRanges", "internal/bytealg.MaxLen"], apart := false, laid := [("unicode/utf8.acceptRanges", laid_unicode_utf8_acceptRanges), ("unicode/utf8.first", laid_unicode_utf8_first)] }
def BytestrRepairedSaid : Prop := bytestrRepairedRow.holds Tryd.pinned (OpenSpec.ofChange bytestrRepairedSpec)

/-- ITS FALSE NEIGHBOUR: 'it returns false'. Refute it at one input. -/
def bytestrRepairedWrong : ChangeSpec := { name := "bytestrRepaired", fn := fun _ => fun
  | [d1, d2] => { results := [.lit (.bool false)], args := [d1, d2] }
  | _ => none }
def BytestrRepairedWrongFalsely : Prop := bytestrRepairedRow.holds Tryd.pinned (OpenSpec.ofChange bytestrRepairedWrong)

/-- 'brindlewoodlaw4.BytestrParts': WHATEVER THE INPUT: true; the input reads as it did. -/
def bytestrPartsSpec : ChangeSpec := { name := "bytestrParts", fn := fun _ => fun
  | [d1, d2, d3, d4, d5, d6] => { results := [.lit (.bool true)], args := [d1, d2, d3, d4, d5, d6] }
  | _ => none }
def bytestrPartsRow : OpenClaim := { program := "ytlclmpegnkomcaadoor", sum := "4f3f2254e54beff73b1b82fa5d5c98d9289070fa4fd7b5b82cda8ae4e4811162", func := "brindlewood/brindlewoodlaw4.BytestrParts", spec := "bytestrParts", inPlace := ["internal/bytealg.IndexByte", "internal/bytealg.Index", "internal/bytealg.Count", "internal/bytealg.MakeNoZero"], unfollowed := true, recurses := true, named := ["internal/bytealg.MaxLen", "unicode/utf8.first", "unicode/utf8.acceptRanges"], apart := false, laid := [("unicode/utf8.acceptRanges", laid_unicode_utf8_acceptRanges), ("unicode/utf8.first", laid_unicode_utf8_first)] }
def BytestrPartsSaid : Prop := bytestrPartsRow.holds Tryd.pinned (OpenSpec.ofChange bytestrPartsSpec)

/-- ITS FALSE NEIGHBOUR: 'it returns false'. Refute it at one input. -/
def bytestrPartsWrong : ChangeSpec := { name := "bytestrParts", fn := fun _ => fun
  | [d1, d2, d3, d4, d5, d6] => { results := [.lit (.bool false)], args := [d1, d2, d3, d4, d5, d6] }
  | _ => none }
def BytestrPartsWrongFalsely : Prop := bytestrPartsRow.holds Tryd.pinned (OpenSpec.ofChange bytestrPartsWrong)

/- THE SECOND FORM. 'bulk': how many values and letters a reading holds, each counted each time it is reached (what is shared counts as often as it is met; a slice's spare places count too). A statement '..UptoSaid' is the law's where the arguments, and the package variables that the reading takes, are together of bulk at most 1048576: NARROWER than '..Said'. Prove '..Said' where nothing that the law and all that it calls make is longer than what came in: it says more and counts as full. Else prove '..UptoSaid'. A law counts once. -/
mutual
def uptoBulk {H : Type} : DataW H → Nat
  | .lit (.string bytes) => bytes.length + 1
  | .lit _ => 1
  | .nil => 1
  | .ptr d => uptoBulk d + 1
  | .slice elems spare => uptoBulkAll elems + uptoBulkAll spare + 1
  | .agg parts => uptoBulkAll parts + 1
  | .iface _ d => uptoBulk d + 1
  | .map entries => uptoBulkEntries entries + 1
  | .held _ => 1
def uptoBulkAll {H : Type} : List (DataW H) → Nat
  | [] => 0
  | d :: r => uptoBulk d + uptoBulkAll r
def uptoBulkEntries {H : Type} : List (Lit × DataW H) → Nat
  | [] => 0
  | x :: r => uptoBulkEntry x + uptoBulkEntries r
def uptoBulkEntry {H : Type} : Lit × DataW H → Nat
  | (.string bytes, d) => bytes.length + uptoBulk d + 1
  | (_, d) => uptoBulk d + 1
 end
def uptoSmall : (H : Type) → List (DataW H) → Bool := fun _ ds => decide (uptoBulkAll ds ≤ 1048576)
def OpenSpec.upto (s : _root_.Go.ChangeSpec) : _root_.Go.OpenSpec := { _root_.Go.OpenSpec.ofChange s with cond := some uptoSmall }

/-- 'brindlewoodlaw4.BytestrTranslates', WHERE WHAT IT READS IS OF BULK AT MOST 1048576: true; the input reads as it did. -/
def bytestrTranslatesUptoRow : OpenClaim := { program := "ytlclmpegnkomcaadoor", sum := "4f3f2254e54beff73b1b82fa5d5c98d9289070fa4fd7b5b82cda8ae4e4811162", func := "brindlewood/brindlewoodlaw4.BytestrTranslates", spec := "bytestrTranslates", inPlace := ["internal/bytealg.IndexByte", "internal/bytealg.MakeNoZero"], unfollowed := true, recurses := true, named := ["unicode/utf8.first", "unicode/utf8.acceptRanges"], apart := false, laid := [("unicode/utf8.acceptRanges", laid_unicode_utf8_acceptRanges), ("unicode/utf8.first", laid_unicode_utf8_first)], narrowed := true }
def BytestrTranslatesUptoSaid : Prop := bytestrTranslatesUptoRow.holds Tryd.pinned (OpenSpec.upto bytestrTranslatesSpec)

/-- 'brindlewoodlaw4.BytestrDigits', WHERE WHAT IT READS IS OF BULK AT MOST 1048576: true; the input reads as it did. -/
def bytestrDigitsUptoRow : OpenClaim := { program := "ytlclmpegnkomcaadoor", sum := "4f3f2254e54beff73b1b82fa5d5c98d9289070fa4fd7b5b82cda8ae4e4811162", func := "brindlewood/brindlewoodlaw4.BytestrDigits", spec := "bytestrDigits", inPlace := ["internal/bytealg.IndexByte"], unfollowed := true, recurses := true, named := ["unicode/utf8.first", "unicode/utf8.acceptRanges"], apart := false, laid := [("unicode/utf8.acceptRanges", laid_unicode_utf8_acceptRanges), ("unicode/utf8.first", laid_unicode_utf8_first)], narrowed := true }
def BytestrDigitsUptoSaid : Prop := bytestrDigitsUptoRow.holds Tryd.pinned (OpenSpec.upto bytestrDigitsSpec)

/-- 'brindlewoodlaw4.BytestrCodes', WHERE WHAT IT READS IS OF BULK AT MOST 1048576: true; the input reads as it did. -/
def bytestrCodesUptoRow : OpenClaim := { program := "ytlclmpegnkomcaadoor", sum := "4f3f2254e54beff73b1b82fa5d5c98d9289070fa4fd7b5b82cda8ae4e4811162", func := "brindlewood/brindlewoodlaw4.BytestrCodes", spec := "bytestrCodes", inPlace := ["internal/bytealg.IndexByte"], unfollowed := true, recurses := true, named := ["unicode/utf8.first", "unicode/utf8.acceptRanges"], apart := false, laid := [("unicode/utf8.acceptRanges", laid_unicode_utf8_acceptRanges), ("unicode/utf8.first", laid_unicode_utf8_first)], narrowed := true }
def BytestrCodesUptoSaid : Prop := bytestrCodesUptoRow.holds Tryd.pinned (OpenSpec.upto bytestrCodesSpec)

/-- 'brindlewoodlaw4.BytestrBack', WHERE WHAT IT READS IS OF BULK AT MOST 1048576: true; the input reads as it did. -/
def bytestrBackUptoRow : OpenClaim := { program := "ytlclmpegnkomcaadoor", sum := "4f3f2254e54beff73b1b82fa5d5c98d9289070fa4fd7b5b82cda8ae4e4811162", func := "brindlewood/brindlewoodlaw4.BytestrBack", spec := "bytestrBack", inPlace := ["internal/bytealg.IndexByte"], unfollowed := true, recurses := true, named := ["unicode/utf8.first", "unicode/utf8.acceptRanges"], apart := false, laid := [("unicode/utf8.acceptRanges", laid_unicode_utf8_acceptRanges), ("unicode/utf8.first", laid_unicode_utf8_first)], narrowed := true }
def BytestrBackUptoSaid : Prop := bytestrBackUptoRow.holds Tryd.pinned (OpenSpec.upto bytestrBackSpec)

/-- 'brindlewoodlaw4.BytestrRepaired', WHERE WHAT IT READS IS OF BULK AT MOST 1048576: true; the input reads as it did. -/
def bytestrRepairedUptoRow : OpenClaim := { program := "ytlclmpegnkomcaadoor", sum := "4f3f2254e54beff73b1b82fa5d5c98d9289070fa4fd7b5b82cda8ae4e4811162", func := "brindlewood/brindlewoodlaw4.BytestrRepaired", spec := "bytestrRepaired", inPlace := ["internal/bytealg.IndexByte", "internal/bytealg.CountString", "internal/bytealg.IndexByteString", "internal/bytealg.IndexString", "internal/abi.NoEscape", "internal/bytealg.MakeNoZero"], unfollowed := true, recurses := true, named := ["unicode/utf8.first", "unicode/utf8.acceptRanges", "internal/bytealg.MaxLen"], apart := false, laid := [("unicode/utf8.acceptRanges", laid_unicode_utf8_acceptRanges), ("unicode/utf8.first", laid_unicode_utf8_first)], narrowed := true }
def BytestrRepairedUptoSaid : Prop := bytestrRepairedUptoRow.holds Tryd.pinned (OpenSpec.upto bytestrRepairedSpec)

/-- 'brindlewoodlaw4.BytestrParts', WHERE WHAT IT READS IS OF BULK AT MOST 1048576: true; the input reads as it did. -/
def bytestrPartsUptoRow : OpenClaim := { program := "ytlclmpegnkomcaadoor", sum := "4f3f2254e54beff73b1b82fa5d5c98d9289070fa4fd7b5b82cda8ae4e4811162", func := "brindlewood/brindlewoodlaw4.BytestrParts", spec := "bytestrParts", inPlace := ["internal/bytealg.IndexByte", "internal/bytealg.Index", "internal/bytealg.Count", "internal/bytealg.MakeNoZero"], unfollowed := true, recurses := true, named := ["internal/bytealg.MaxLen", "unicode/utf8.first", "unicode/utf8.acceptRanges"], apart := false, laid := [("unicode/utf8.acceptRanges", laid_unicode_utf8_acceptRanges), ("unicode/utf8.first", laid_unicode_utf8_first)], narrowed := true }
def BytestrPartsUptoSaid : Prop := bytestrPartsUptoRow.holds Tryd.pinned (OpenSpec.upto bytestrPartsSpec)

end Rows
end Go.Proofs.YtlclmpegnkomcaaDoor
