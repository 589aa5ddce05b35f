/-
  NARROWER THAN 'FOR EVERY INPUT', by the rows' own cells (each row's printed sentence says how): TextstrLinesKept: laid · TextstrLetters: laid · TextstrCases: laid · TextstrWraps: laid · TextstrNearer: laid · TextstrFinds: laid · TextstrJoins: laid · TextstrReplaced: laid · TextstrSplits: laid · TextstrRejoins: laid · TextstrSides: laid.
  DERIVED. THE GIVEN ROWS OF THIS SEAT. 11 by the template 'for every input the law returns true; each argument reads behind the call as it read before'; 0 by the template 'total and deterministic' (their statements: YtkmcegicngjhbaaDoorTotals.lean).
  GIVEN WITH THE SEED: the statements are not yours to turn. If you find one false, say at which input.
  Laid BY PROGRAM, IN A SANDBOX (cutbox-rows.mjs): the forced cells as the released guide's own fill.sh prints them over the translation 54218f1f5da91ed9… (all of the seat's roots in one cut). By AI agents, Wed Nov 11 2026. No macro, syntax, notation, axiom, sorry.
-/
import Derived.Test.YtkmcegicngjhbaaDoorChecked
import GoSem.PinnedTables
import GoSem.Claim
import GoSem.ClaimJoined
import GoSem.ClaimMapViews
import Derived.JoinedTies
import Derived.KernelRfl
namespace Go.Proofs.YtkmcegicngjhbaaDoor
/- THE CELL 'sum', in the pinned program and in every row, IS THE sha256 OF THE DUMP (.gsa) THAT YtkmcegicngjhbaaDoorProg.lean LOADS. Nothing in Lean hashes anything: it is a label: what it is worth is what the hold of that sum in a sandbox is worth. -/
noncomputable def Tryd.pinned : Pinned := { name := "ytkmcegicngjhbaadoor", sum := "54218f1f5da91ed937cc2e41768068b1143afb44bad7d0b2e6e645471dc8cae7", checked := Tryd.checked }
namespace Rows
def none {H : Type} : Left H := { results := [], args := [] }

/- WHAT THE LISTED PACKAGE-LEVEL VARIABLES READ AS WHEN THE CALL BEGINS. Each datum BY PROGRAM (the guide's laid-datum.mjs) off the statement by which the dump's own 'gosem.cut.vars' lays the variable. In a bare row this is a premise. The card (YtkmcegicngjhbaaDoorCards.lean) ties it to the program's text. -/
def laid_unicode_utf8_acceptRanges {H : Type} : DataW H := .agg [.agg [.lit (.int .u8 128), .lit (.int .u8 191)], .agg [.lit (.int .u8 160), .lit (.int .u8 191)], .agg [.lit (.int .u8 128), .lit (.int .u8 159)], .agg [.lit (.int .u8 144), .lit (.int .u8 191)], .agg [.lit (.int .u8 128), .lit (.int .u8 143)], .agg [.lit (.int .u8 0), .lit (.int .u8 0)], .agg [.lit (.int .u8 0), .lit (.int .u8 0)], .agg [.lit (.int .u8 0), .lit (.int .u8 0)], .agg [.lit (.int .u8 0), .lit (.int .u8 0)], .agg [.lit (.int .u8 0), .lit (.int .u8 0)], .agg [.lit (.int .u8 0), .lit (.int .u8 0)], .agg [.lit (.int .u8 0), .lit (.int .u8 0)], .agg [.lit (.int .u8 0), .lit (.int .u8 0)], .agg [.lit (.int .u8 0), .lit (.int .u8 0)], .agg [.lit (.int .u8 0), .lit (.int .u8 0)], .agg [.lit (.int .u8 0), .lit (.int .u8 0)]]
/-- One of Go's own tables, pinned by name: the form's constant. -/
def laid_unicode_utf8_first : DataW Unit := Go.Pinned.utf8First

/-- 'brindlewoodlaw4.TextstrLinesKept': WHATEVER THE INPUT: true; the input reads as it did. -/
def textstrLinesKeptSpec : ChangeSpec := { name := "textstrLinesKept", fn := fun _ => fun
  | [d1, d2] => { results := [.lit (.bool true)], args := [d1, d2] }
  | _ => none }
def textstrLinesKeptRow : OpenClaim := { program := "ytkmcegicngjhbaadoor", sum := "54218f1f5da91ed937cc2e41768068b1143afb44bad7d0b2e6e645471dc8cae7", func := "brindlewood/brindlewoodlaw4.TextstrLinesKept", spec := "textstrLinesKept", inPlace := ["internal/bytealg.CountString", "internal/bytealg.IndexByteString", "internal/bytealg.IndexString", "internal/abi.NoEscape", "internal/bytealg.MakeNoZero"], unfollowed := true, recurses := true, named := ["unicode/utf8.first", "unicode/utf8.acceptRanges", "internal/bytealg.MaxLen"], apart := false, laid := [("unicode/utf8.acceptRanges", laid_unicode_utf8_acceptRanges), ("unicode/utf8.first", laid_unicode_utf8_first)] }
def TextstrLinesKeptSaid : Prop := textstrLinesKeptRow.holds Tryd.pinned (OpenSpec.ofChange textstrLinesKeptSpec)

/-- ITS FALSE NEIGHBOUR: 'it returns false'. Refute it at one input. -/
def textstrLinesKeptWrong : ChangeSpec := { name := "textstrLinesKept", fn := fun _ => fun
  | [d1, d2] => { results := [.lit (.bool false)], args := [d1, d2] }
  | _ => none }
def TextstrLinesKeptWrongFalsely : Prop := textstrLinesKeptRow.holds Tryd.pinned (OpenSpec.ofChange textstrLinesKeptWrong)

/-- 'brindlewoodlaw4.TextstrLetters': WHATEVER THE INPUT: true; the input reads as it did. -/
def textstrLettersSpec : ChangeSpec := { name := "textstrLetters", fn := fun _ => fun
  | [d1, d2] => { results := [.lit (.bool true)], args := [d1, d2] }
  | _ => none }
def textstrLettersRow : OpenClaim := { program := "ytkmcegicngjhbaadoor", sum := "54218f1f5da91ed937cc2e41768068b1143afb44bad7d0b2e6e645471dc8cae7", func := "brindlewood/brindlewoodlaw4.TextstrLetters", spec := "textstrLetters", inPlace := ["internal/abi.NoEscape", "internal/bytealg.MakeNoZero", "internal/bytealg.CountString", "internal/bytealg.IndexByteString", "internal/bytealg.IndexString"], unfollowed := true, recurses := true, named := ["unicode/utf8.first", "unicode/utf8.acceptRanges", "internal/bytealg.MaxLen"], apart := false, laid := [("unicode/utf8.acceptRanges", laid_unicode_utf8_acceptRanges), ("unicode/utf8.first", laid_unicode_utf8_first)] }
def TextstrLettersSaid : Prop := textstrLettersRow.holds Tryd.pinned (OpenSpec.ofChange textstrLettersSpec)

/-- ITS FALSE NEIGHBOUR: 'it returns false'. Refute it at one input. -/
def textstrLettersWrong : ChangeSpec := { name := "textstrLetters", fn := fun _ => fun
  | [d1, d2] => { results := [.lit (.bool false)], args := [d1, d2] }
  | _ => none }
def TextstrLettersWrongFalsely : Prop := textstrLettersRow.holds Tryd.pinned (OpenSpec.ofChange textstrLettersWrong)

/-- 'brindlewoodlaw4.TextstrCases': WHATEVER THE INPUT: true; the input reads as it did. -/
def textstrCasesSpec : ChangeSpec := { name := "textstrCases", fn := fun _ => fun
  | [d] => { results := [.lit (.bool true)], args := [d] }
  | _ => none }
def textstrCasesRow : OpenClaim := { program := "ytkmcegicngjhbaadoor", sum := "54218f1f5da91ed937cc2e41768068b1143afb44bad7d0b2e6e645471dc8cae7", func := "brindlewood/brindlewoodlaw4.TextstrCases", spec := "textstrCases", inPlace := ["internal/bytealg.CountString", "internal/bytealg.IndexByteString", "internal/bytealg.IndexString", "internal/abi.NoEscape", "internal/bytealg.MakeNoZero"], unfollowed := true, recurses := true, named := ["unicode/utf8.first", "unicode/utf8.acceptRanges", "internal/bytealg.MaxLen"], apart := false, laid := [("unicode/utf8.acceptRanges", laid_unicode_utf8_acceptRanges), ("unicode/utf8.first", laid_unicode_utf8_first)] }
def TextstrCasesSaid : Prop := textstrCasesRow.holds Tryd.pinned (OpenSpec.ofChange textstrCasesSpec)

/-- ITS FALSE NEIGHBOUR: 'it returns false'. Refute it at one input. -/
def textstrCasesWrong : ChangeSpec := { name := "textstrCases", fn := fun _ => fun
  | [d] => { results := [.lit (.bool false)], args := [d] }
  | _ => none }
def TextstrCasesWrongFalsely : Prop := textstrCasesRow.holds Tryd.pinned (OpenSpec.ofChange textstrCasesWrong)

/-- 'brindlewoodlaw4.TextstrWraps': WHATEVER THE INPUT: true; the input reads as it did. -/
def textstrWrapsSpec : ChangeSpec := { name := "textstrWraps", fn := fun _ => fun
  | [d1, d2, d3] => { results := [.lit (.bool true)], args := [d1, d2, d3] }
  | _ => none }
def textstrWrapsRow : OpenClaim := { program := "ytkmcegicngjhbaadoor", sum := "54218f1f5da91ed937cc2e41768068b1143afb44bad7d0b2e6e645471dc8cae7", func := "brindlewood/brindlewoodlaw4.TextstrWraps", spec := "textstrWraps", inPlace := ["internal/bytealg.CountString", "internal/bytealg.IndexByteString", "internal/bytealg.IndexString", "internal/abi.NoEscape", "internal/bytealg.MakeNoZero"], unfollowed := true, recurses := true, named := ["unicode/utf8.first", "unicode/utf8.acceptRanges", "internal/bytealg.MaxLen"], apart := false, laid := [("unicode/utf8.acceptRanges", laid_unicode_utf8_acceptRanges), ("unicode/utf8.first", laid_unicode_utf8_first)] }
def TextstrWrapsSaid : Prop := textstrWrapsRow.holds Tryd.pinned (OpenSpec.ofChange textstrWrapsSpec)

/-- ITS FALSE NEIGHBOUR: 'it returns false'. Refute it at one input. -/
def textstrWrapsWrong : ChangeSpec := { name := "textstrWraps", fn := fun _ => fun
  | [d1, d2, d3] => { results := [.lit (.bool false)], args := [d1, d2, d3] }
  | _ => none }
def TextstrWrapsWrongFalsely : Prop := textstrWrapsRow.holds Tryd.pinned (OpenSpec.ofChange textstrWrapsWrong)

/-- 'brindlewoodlaw4.TextstrNearer': WHATEVER THE INPUT: true; the input reads as it did. -/
def textstrNearerSpec : ChangeSpec := { name := "textstrNearer", fn := fun _ => fun
  | [d1, d2, d3] => { results := [.lit (.bool true)], args := [d1, d2, d3] }
  | _ => none }
def textstrNearerRow : OpenClaim := { program := "ytkmcegicngjhbaadoor", sum := "54218f1f5da91ed937cc2e41768068b1143afb44bad7d0b2e6e645471dc8cae7", func := "brindlewood/brindlewoodlaw4.TextstrNearer", spec := "textstrNearer", inPlace := ["internal/bytealg.CountString", "internal/bytealg.IndexByteString", "internal/bytealg.IndexString", "internal/abi.NoEscape", "internal/bytealg.MakeNoZero"], unfollowed := true, recurses := true, named := ["unicode/utf8.first", "unicode/utf8.acceptRanges", "internal/bytealg.MaxLen"], apart := false, laid := [("unicode/utf8.acceptRanges", laid_unicode_utf8_acceptRanges), ("unicode/utf8.first", laid_unicode_utf8_first)] }
def TextstrNearerSaid : Prop := textstrNearerRow.holds Tryd.pinned (OpenSpec.ofChange textstrNearerSpec)

/-- ITS FALSE NEIGHBOUR: 'it returns false'. Refute it at one input. -/
def textstrNearerWrong : ChangeSpec := { name := "textstrNearer", fn := fun _ => fun
  | [d1, d2, d3] => { results := [.lit (.bool false)], args := [d1, d2, d3] }
  | _ => none }
def TextstrNearerWrongFalsely : Prop := textstrNearerRow.holds Tryd.pinned (OpenSpec.ofChange textstrNearerWrong)

/-- 'brindlewoodlaw4.TextstrFinds': WHATEVER THE INPUT: true; the input reads as it did. -/
def textstrFindsSpec : ChangeSpec := { name := "textstrFinds", fn := fun _ => fun
  | [d1, d2, d3, d4, d5] => { results := [.lit (.bool true)], args := [d1, d2, d3, d4, d5] }
  | _ => none }
def textstrFindsRow : OpenClaim := { program := "ytkmcegicngjhbaadoor", sum := "54218f1f5da91ed937cc2e41768068b1143afb44bad7d0b2e6e645471dc8cae7", func := "brindlewood/brindlewoodlaw4.TextstrFinds", spec := "textstrFinds", inPlace := ["internal/bytealg.IndexByteString", "internal/bytealg.IndexString", "internal/bytealg.CountString", "internal/abi.NoEscape", "internal/bytealg.MakeNoZero"], unfollowed := true, recurses := true, named := ["unicode/utf8.first", "unicode/utf8.acceptRanges", "internal/bytealg.MaxLen"], apart := false, laid := [("unicode/utf8.acceptRanges", laid_unicode_utf8_acceptRanges), ("unicode/utf8.first", laid_unicode_utf8_first)] }
def TextstrFindsSaid : Prop := textstrFindsRow.holds Tryd.pinned (OpenSpec.ofChange textstrFindsSpec)

/-- ITS FALSE NEIGHBOUR: 'it returns false'. Refute it at one input. -/
def textstrFindsWrong : ChangeSpec := { name := "textstrFinds", fn := fun _ => fun
  | [d1, d2, d3, d4, d5] => { results := [.lit (.bool false)], args := [d1, d2, d3, d4, d5] }
  | _ => none }
def TextstrFindsWrongFalsely : Prop := textstrFindsRow.holds Tryd.pinned (OpenSpec.ofChange textstrFindsWrong)

/-- 'brindlewoodlaw4.TextstrJoins': WHATEVER THE INPUT: true; the input reads as it did. -/
def textstrJoinsSpec : ChangeSpec := { name := "textstrJoins", fn := fun _ => fun
  | [d1, d2, d3, d4, d5, d6] => { results := [.lit (.bool true)], args := [d1, d2, d3, d4, d5, d6] }
  | _ => none }
def textstrJoinsRow : OpenClaim := { program := "ytkmcegicngjhbaadoor", sum := "54218f1f5da91ed937cc2e41768068b1143afb44bad7d0b2e6e645471dc8cae7", func := "brindlewood/brindlewoodlaw4.TextstrJoins", spec := "textstrJoins", inPlace := ["internal/abi.NoEscape", "internal/bytealg.MakeNoZero", "internal/bytealg.CountString", "internal/bytealg.IndexByteString", "internal/bytealg.IndexString"], unfollowed := true, recurses := true, named := ["unicode/utf8.first", "unicode/utf8.acceptRanges", "internal/bytealg.MaxLen"], apart := false, laid := [("unicode/utf8.acceptRanges", laid_unicode_utf8_acceptRanges), ("unicode/utf8.first", laid_unicode_utf8_first)] }
def TextstrJoinsSaid : Prop := textstrJoinsRow.holds Tryd.pinned (OpenSpec.ofChange textstrJoinsSpec)

/-- ITS FALSE NEIGHBOUR: 'it returns false'. Refute it at one input. -/
def textstrJoinsWrong : ChangeSpec := { name := "textstrJoins", fn := fun _ => fun
  | [d1, d2, d3, d4, d5, d6] => { results := [.lit (.bool false)], args := [d1, d2, d3, d4, d5, d6] }
  | _ => none }
def TextstrJoinsWrongFalsely : Prop := textstrJoinsRow.holds Tryd.pinned (OpenSpec.ofChange textstrJoinsWrong)

/-- 'brindlewoodlaw4.TextstrReplaced': WHATEVER THE INPUT: true; the input reads as it did. -/
def textstrReplacedSpec : ChangeSpec := { name := "textstrReplaced", fn := fun _ => fun
  | [d1, d2, d3, d4] => { results := [.lit (.bool true)], args := [d1, d2, d3, d4] }
  | _ => none }
def textstrReplacedRow : OpenClaim := { program := "ytkmcegicngjhbaadoor", sum := "54218f1f5da91ed937cc2e41768068b1143afb44bad7d0b2e6e645471dc8cae7", func := "brindlewood/brindlewoodlaw4.TextstrReplaced", spec := "textstrReplaced", inPlace := ["internal/bytealg.CountString", "internal/bytealg.IndexByteString", "internal/bytealg.IndexString", "internal/abi.NoEscape", "internal/bytealg.MakeNoZero"], unfollowed := true, recurses := true, named := ["unicode/utf8.first", "unicode/utf8.acceptRanges", "internal/bytealg.MaxLen"], apart := false, laid := [("unicode/utf8.acceptRanges", laid_unicode_utf8_acceptRanges), ("unicode/utf8.first", laid_unicode_utf8_first)] }
def TextstrReplacedSaid : Prop := textstrReplacedRow.holds Tryd.pinned (OpenSpec.ofChange textstrReplacedSpec)

/-- ITS FALSE NEIGHBOUR: 'it returns false'. Refute it at one input. -/
def textstrReplacedWrong : ChangeSpec := { name := "textstrReplaced", fn := fun _ => fun
  | [d1, d2, d3, d4] => { results := [.lit (.bool false)], args := [d1, d2, d3, d4] }
  | _ => none }
def TextstrReplacedWrongFalsely : Prop := textstrReplacedRow.holds Tryd.pinned (OpenSpec.ofChange textstrReplacedWrong)

/-- 'brindlewoodlaw4.TextstrSplits': WHATEVER THE INPUT: true; the input reads as it did. -/
def textstrSplitsSpec : ChangeSpec := { name := "textstrSplits", fn := fun _ => fun
  | [d1, d2, d3] => { results := [.lit (.bool true)], args := [d1, d2, d3] }
  | _ => none }
def textstrSplitsRow : OpenClaim := { program := "ytkmcegicngjhbaadoor", sum := "54218f1f5da91ed937cc2e41768068b1143afb44bad7d0b2e6e645471dc8cae7", func := "brindlewood/brindlewoodlaw4.TextstrSplits", spec := "textstrSplits", inPlace := ["internal/bytealg.CountString", "internal/bytealg.IndexByteString", "internal/bytealg.IndexString", "internal/abi.NoEscape", "internal/bytealg.MakeNoZero"], unfollowed := true, recurses := true, named := ["unicode/utf8.first", "unicode/utf8.acceptRanges", "internal/bytealg.MaxLen"], apart := false, laid := [("unicode/utf8.acceptRanges", laid_unicode_utf8_acceptRanges), ("unicode/utf8.first", laid_unicode_utf8_first)] }
def TextstrSplitsSaid : Prop := textstrSplitsRow.holds Tryd.pinned (OpenSpec.ofChange textstrSplitsSpec)

/-- ITS FALSE NEIGHBOUR: 'it returns false'. Refute it at one input. -/
def textstrSplitsWrong : ChangeSpec := { name := "textstrSplits", fn := fun _ => fun
  | [d1, d2, d3] => { results := [.lit (.bool false)], args := [d1, d2, d3] }
  | _ => none }
def TextstrSplitsWrongFalsely : Prop := textstrSplitsRow.holds Tryd.pinned (OpenSpec.ofChange textstrSplitsWrong)

/-- 'brindlewoodlaw4.TextstrRejoins': WHATEVER THE INPUT: true; the input reads as it did. -/
def textstrRejoinsSpec : ChangeSpec := { name := "textstrRejoins", fn := fun _ => fun
  | [d1, d2, d3] => { results := [.lit (.bool true)], args := [d1, d2, d3] }
  | _ => none }
def textstrRejoinsRow : OpenClaim := { program := "ytkmcegicngjhbaadoor", sum := "54218f1f5da91ed937cc2e41768068b1143afb44bad7d0b2e6e645471dc8cae7", func := "brindlewood/brindlewoodlaw4.TextstrRejoins", spec := "textstrRejoins", inPlace := ["internal/bytealg.CountString", "internal/bytealg.IndexByteString", "internal/bytealg.IndexString", "internal/abi.NoEscape", "internal/bytealg.MakeNoZero"], unfollowed := true, recurses := true, named := ["unicode/utf8.first", "unicode/utf8.acceptRanges", "internal/bytealg.MaxLen"], apart := false, laid := [("unicode/utf8.acceptRanges", laid_unicode_utf8_acceptRanges), ("unicode/utf8.first", laid_unicode_utf8_first)] }
def TextstrRejoinsSaid : Prop := textstrRejoinsRow.holds Tryd.pinned (OpenSpec.ofChange textstrRejoinsSpec)

/-- ITS FALSE NEIGHBOUR: 'it returns false'. Refute it at one input. -/
def textstrRejoinsWrong : ChangeSpec := { name := "textstrRejoins", fn := fun _ => fun
  | [d1, d2, d3] => { results := [.lit (.bool false)], args := [d1, d2, d3] }
  | _ => none }
def TextstrRejoinsWrongFalsely : Prop := textstrRejoinsRow.holds Tryd.pinned (OpenSpec.ofChange textstrRejoinsWrong)

/-- 'brindlewoodlaw4.TextstrSides': WHATEVER THE INPUT: true; the input reads as it did. -/
def textstrSidesSpec : ChangeSpec := { name := "textstrSides", fn := fun _ => fun
  | [d1, d2, d3, d4, d5] => { results := [.lit (.bool true)], args := [d1, d2, d3, d4, d5] }
  | _ => none }
def textstrSidesRow : OpenClaim := { program := "ytkmcegicngjhbaadoor", sum := "54218f1f5da91ed937cc2e41768068b1143afb44bad7d0b2e6e645471dc8cae7", func := "brindlewood/brindlewoodlaw4.TextstrSides", spec := "textstrSides", inPlace := ["internal/bytealg.IndexByteString", "internal/bytealg.IndexString", "internal/abi.NoEscape", "internal/bytealg.MakeNoZero", "internal/bytealg.CountString"], unfollowed := true, recurses := true, named := ["unicode/utf8.first", "unicode/utf8.acceptRanges", "internal/bytealg.MaxLen"], apart := false, laid := [("unicode/utf8.acceptRanges", laid_unicode_utf8_acceptRanges), ("unicode/utf8.first", laid_unicode_utf8_first)] }
def TextstrSidesSaid : Prop := textstrSidesRow.holds Tryd.pinned (OpenSpec.ofChange textstrSidesSpec)

/-- ITS FALSE NEIGHBOUR: 'it returns false'. Refute it at one input. -/
def textstrSidesWrong : ChangeSpec := { name := "textstrSides", fn := fun _ => fun
  | [d1, d2, d3, d4, d5] => { results := [.lit (.bool false)], args := [d1, d2, d3, d4, d5] }
  | _ => none }
def TextstrSidesWrongFalsely : Prop := textstrSidesRow.holds Tryd.pinned (OpenSpec.ofChange textstrSidesWrong)

/- THE SECOND FORM. 'bulk': how many values and letters a reading holds, each counted each time it is reached (what is shared counts as often as it is met; a slice's spare places count too). A statement '..UptoSaid' is the law's where the arguments, and the package variables that the reading takes, are together of bulk at most 1048576: NARROWER than '..Said'. Prove '..Said' where nothing that the law and all that it calls make is longer than what came in: it says more and counts as full. Else prove '..UptoSaid'. A law counts once. -/
mutual
def uptoBulk {H : Type} : DataW H → Nat
  | .lit (.string bytes) => bytes.length + 1
  | .lit _ => 1
  | .nil => 1
  | .ptr d => uptoBulk d + 1
  | .slice elems spare => uptoBulkAll elems + uptoBulkAll spare + 1
  | .agg parts => uptoBulkAll parts + 1
  | .iface _ d => uptoBulk d + 1
  | .map entries => uptoBulkEntries entries + 1
  | .held _ => 1
def uptoBulkAll {H : Type} : List (DataW H) → Nat
  | [] => 0
  | d :: r => uptoBulk d + uptoBulkAll r
def uptoBulkEntries {H : Type} : List (Lit × DataW H) → Nat
  | [] => 0
  | x :: r => uptoBulkEntry x + uptoBulkEntries r
def uptoBulkEntry {H : Type} : Lit × DataW H → Nat
  | (.string bytes, d) => bytes.length + uptoBulk d + 1
  | (_, d) => uptoBulk d + 1
 end
def uptoSmall : (H : Type) → List (DataW H) → Bool := fun _ ds => decide (uptoBulkAll ds ≤ 1048576)
def OpenSpec.upto (s : _root_.Go.ChangeSpec) : _root_.Go.OpenSpec := { _root_.Go.OpenSpec.ofChange s with cond := some uptoSmall }

/-- 'brindlewoodlaw4.TextstrLinesKept', WHERE WHAT IT READS IS OF BULK AT MOST 1048576: true; the input reads as it did. -/
def textstrLinesKeptUptoRow : OpenClaim := { program := "ytkmcegicngjhbaadoor", sum := "54218f1f5da91ed937cc2e41768068b1143afb44bad7d0b2e6e645471dc8cae7", func := "brindlewood/brindlewoodlaw4.TextstrLinesKept", spec := "textstrLinesKept", inPlace := ["internal/bytealg.CountString", "internal/bytealg.IndexByteString", "internal/bytealg.IndexString", "internal/abi.NoEscape", "internal/bytealg.MakeNoZero"], unfollowed := true, recurses := true, named := ["unicode/utf8.first", "unicode/utf8.acceptRanges", "internal/bytealg.MaxLen"], apart := false, laid := [("unicode/utf8.acceptRanges", laid_unicode_utf8_acceptRanges), ("unicode/utf8.first", laid_unicode_utf8_first)], narrowed := true }
def TextstrLinesKeptUptoSaid : Prop := textstrLinesKeptUptoRow.holds Tryd.pinned (OpenSpec.upto textstrLinesKeptSpec)

/-- 'brindlewoodlaw4.TextstrLetters', WHERE WHAT IT READS IS OF BULK AT MOST 1048576: true; the input reads as it did. -/
def textstrLettersUptoRow : OpenClaim := { program := "ytkmcegicngjhbaadoor", sum := "54218f1f5da91ed937cc2e41768068b1143afb44bad7d0b2e6e645471dc8cae7", func := "brindlewood/brindlewoodlaw4.TextstrLetters", spec := "textstrLetters", inPlace := ["internal/abi.NoEscape", "internal/bytealg.MakeNoZero", "internal/bytealg.CountString", "internal/bytealg.IndexByteString", "internal/bytealg.IndexString"], unfollowed := true, recurses := true, named := ["unicode/utf8.first", "unicode/utf8.acceptRanges", "internal/bytealg.MaxLen"], apart := false, laid := [("unicode/utf8.acceptRanges", laid_unicode_utf8_acceptRanges), ("unicode/utf8.first", laid_unicode_utf8_first)], narrowed := true }
def TextstrLettersUptoSaid : Prop := textstrLettersUptoRow.holds Tryd.pinned (OpenSpec.upto textstrLettersSpec)

/-- 'brindlewoodlaw4.TextstrCases', WHERE WHAT IT READS IS OF BULK AT MOST 1048576: true; the input reads as it did. -/
def textstrCasesUptoRow : OpenClaim := { program := "ytkmcegicngjhbaadoor", sum := "54218f1f5da91ed937cc2e41768068b1143afb44bad7d0b2e6e645471dc8cae7", func := "brindlewood/brindlewoodlaw4.TextstrCases", spec := "textstrCases", inPlace := ["internal/bytealg.CountString", "internal/bytealg.IndexByteString", "internal/bytealg.IndexString", "internal/abi.NoEscape", "internal/bytealg.MakeNoZero"], unfollowed := true, recurses := true, named := ["unicode/utf8.first", "unicode/utf8.acceptRanges", "internal/bytealg.MaxLen"], apart := false, laid := [("unicode/utf8.acceptRanges", laid_unicode_utf8_acceptRanges), ("unicode/utf8.first", laid_unicode_utf8_first)], narrowed := true }
def TextstrCasesUptoSaid : Prop := textstrCasesUptoRow.holds Tryd.pinned (OpenSpec.upto textstrCasesSpec)

/-- 'brindlewoodlaw4.TextstrWraps', WHERE WHAT IT READS IS OF BULK AT MOST 1048576: true; the input reads as it did. -/
def textstrWrapsUptoRow : OpenClaim := { program := "ytkmcegicngjhbaadoor", sum := "54218f1f5da91ed937cc2e41768068b1143afb44bad7d0b2e6e645471dc8cae7", func := "brindlewood/brindlewoodlaw4.TextstrWraps", spec := "textstrWraps", inPlace := ["internal/bytealg.CountString", "internal/bytealg.IndexByteString", "internal/bytealg.IndexString", "internal/abi.NoEscape", "internal/bytealg.MakeNoZero"], unfollowed := true, recurses := true, named := ["unicode/utf8.first", "unicode/utf8.acceptRanges", "internal/bytealg.MaxLen"], apart := false, laid := [("unicode/utf8.acceptRanges", laid_unicode_utf8_acceptRanges), ("unicode/utf8.first", laid_unicode_utf8_first)], narrowed := true }
def TextstrWrapsUptoSaid : Prop := textstrWrapsUptoRow.holds Tryd.pinned (OpenSpec.upto textstrWrapsSpec)

/-- 'brindlewoodlaw4.TextstrNearer', WHERE WHAT IT READS IS OF BULK AT MOST 1048576: true; the input reads as it did. -/
def textstrNearerUptoRow : OpenClaim := { program := "ytkmcegicngjhbaadoor", sum := "54218f1f5da91ed937cc2e41768068b1143afb44bad7d0b2e6e645471dc8cae7", func := "brindlewood/brindlewoodlaw4.TextstrNearer", spec := "textstrNearer", inPlace := ["internal/bytealg.CountString", "internal/bytealg.IndexByteString", "internal/bytealg.IndexString", "internal/abi.NoEscape", "internal/bytealg.MakeNoZero"], unfollowed := true, recurses := true, named := ["unicode/utf8.first", "unicode/utf8.acceptRanges", "internal/bytealg.MaxLen"], apart := false, laid := [("unicode/utf8.acceptRanges", laid_unicode_utf8_acceptRanges), ("unicode/utf8.first", laid_unicode_utf8_first)], narrowed := true }
def TextstrNearerUptoSaid : Prop := textstrNearerUptoRow.holds Tryd.pinned (OpenSpec.upto textstrNearerSpec)

/-- 'brindlewoodlaw4.TextstrFinds', WHERE WHAT IT READS IS OF BULK AT MOST 1048576: true; the input reads as it did. -/
def textstrFindsUptoRow : OpenClaim := { program := "ytkmcegicngjhbaadoor", sum := "54218f1f5da91ed937cc2e41768068b1143afb44bad7d0b2e6e645471dc8cae7", func := "brindlewood/brindlewoodlaw4.TextstrFinds", spec := "textstrFinds", inPlace := ["internal/bytealg.IndexByteString", "internal/bytealg.IndexString", "internal/bytealg.CountString", "internal/abi.NoEscape", "internal/bytealg.MakeNoZero"], unfollowed := true, recurses := true, named := ["unicode/utf8.first", "unicode/utf8.acceptRanges", "internal/bytealg.MaxLen"], apart := false, laid := [("unicode/utf8.acceptRanges", laid_unicode_utf8_acceptRanges), ("unicode/utf8.first", laid_unicode_utf8_first)], narrowed := true }
def TextstrFindsUptoSaid : Prop := textstrFindsUptoRow.holds Tryd.pinned (OpenSpec.upto textstrFindsSpec)

/-- 'brindlewoodlaw4.TextstrJoins', WHERE WHAT IT READS IS OF BULK AT MOST 1048576: true; the input reads as it did. -/
def textstrJoinsUptoRow : OpenClaim := { program := "ytkmcegicngjhbaadoor", sum := "54218f1f5da91ed937cc2e41768068b1143afb44bad7d0b2e6e645471dc8cae7", func := "brindlewood/brindlewoodlaw4.TextstrJoins", spec := "textstrJoins", inPlace := ["internal/abi.NoEscape", "internal/bytealg.MakeNoZero", "internal/bytealg.CountString", "internal/bytealg.IndexByteString", "internal/bytealg.IndexString"], unfollowed := true, recurses := true, named := ["unicode/utf8.first", "unicode/utf8.acceptRanges", "internal/bytealg.MaxLen"], apart := false, laid := [("unicode/utf8.acceptRanges", laid_unicode_utf8_acceptRanges), ("unicode/utf8.first", laid_unicode_utf8_first)], narrowed := true }
def TextstrJoinsUptoSaid : Prop := textstrJoinsUptoRow.holds Tryd.pinned (OpenSpec.upto textstrJoinsSpec)

/-- 'brindlewoodlaw4.TextstrReplaced', WHERE WHAT IT READS IS OF BULK AT MOST 1048576: true; the input reads as it did. -/
def textstrReplacedUptoRow : OpenClaim := { program := "ytkmcegicngjhbaadoor", sum := "54218f1f5da91ed937cc2e41768068b1143afb44bad7d0b2e6e645471dc8cae7", func := "brindlewood/brindlewoodlaw4.TextstrReplaced", spec := "textstrReplaced", inPlace := ["internal/bytealg.CountString", "internal/bytealg.IndexByteString", "internal/bytealg.IndexString", "internal/abi.NoEscape", "internal/bytealg.MakeNoZero"], unfollowed := true, recurses := true, named := ["unicode/utf8.first", "unicode/utf8.acceptRanges", "internal/bytealg.MaxLen"], apart := false, laid := [("unicode/utf8.acceptRanges", laid_unicode_utf8_acceptRanges), ("unicode/utf8.first", laid_unicode_utf8_first)], narrowed := true }
def TextstrReplacedUptoSaid : Prop := textstrReplacedUptoRow.holds Tryd.pinned (OpenSpec.upto textstrReplacedSpec)

/-- 'brindlewoodlaw4.TextstrSplits', WHERE WHAT IT READS IS OF BULK AT MOST 1048576: true; the input reads as it did. -/
def textstrSplitsUptoRow : OpenClaim := { program := "ytkmcegicngjhbaadoor", sum := "54218f1f5da91ed937cc2e41768068b1143afb44bad7d0b2e6e645471dc8cae7", func := "brindlewood/brindlewoodlaw4.TextstrSplits", spec := "textstrSplits", inPlace := ["internal/bytealg.CountString", "internal/bytealg.IndexByteString", "internal/bytealg.IndexString", "internal/abi.NoEscape", "internal/bytealg.MakeNoZero"], unfollowed := true, recurses := true, named := ["unicode/utf8.first", "unicode/utf8.acceptRanges", "internal/bytealg.MaxLen"], apart := false, laid := [("unicode/utf8.acceptRanges", laid_unicode_utf8_acceptRanges), ("unicode/utf8.first", laid_unicode_utf8_first)], narrowed := true }
def TextstrSplitsUptoSaid : Prop := textstrSplitsUptoRow.holds Tryd.pinned (OpenSpec.upto textstrSplitsSpec)

/-- 'brindlewoodlaw4.TextstrRejoins', WHERE WHAT IT READS IS OF BULK AT MOST 1048576: true; the input reads as it did. -/
def textstrRejoinsUptoRow : OpenClaim := { program := "ytkmcegicngjhbaadoor", sum := "54218f1f5da91ed937cc2e41768068b1143afb44bad7d0b2e6e645471dc8cae7", func := "brindlewood/brindlewoodlaw4.TextstrRejoins", spec := "textstrRejoins", inPlace := ["internal/bytealg.CountString", "internal/bytealg.IndexByteString", "internal/bytealg.IndexString", "internal/abi.NoEscape", "internal/bytealg.MakeNoZero"], unfollowed := true, recurses := true, named := ["unicode/utf8.first", "unicode/utf8.acceptRanges", "internal/bytealg.MaxLen"], apart := false, laid := [("unicode/utf8.acceptRanges", laid_unicode_utf8_acceptRanges), ("unicode/utf8.first", laid_unicode_utf8_first)], narrowed := true }
def TextstrRejoinsUptoSaid : Prop := textstrRejoinsUptoRow.holds Tryd.pinned (OpenSpec.upto textstrRejoinsSpec)

/-- 'brindlewoodlaw4.TextstrSides', WHERE WHAT IT READS IS OF BULK AT MOST 1048576: true; the input reads as it did. -/
def textstrSidesUptoRow : OpenClaim := { program := "ytkmcegicngjhbaadoor", sum := "54218f1f5da91ed937cc2e41768068b1143afb44bad7d0b2e6e645471dc8cae7", func := "brindlewood/brindlewoodlaw4.TextstrSides", spec := "textstrSides", inPlace := ["internal/bytealg.IndexByteString", "internal/bytealg.IndexString", "internal/abi.NoEscape", "internal/bytealg.MakeNoZero", "internal/bytealg.CountString"], unfollowed := true, recurses := true, named := ["unicode/utf8.first", "unicode/utf8.acceptRanges", "internal/bytealg.MaxLen"], apart := false, laid := [("unicode/utf8.acceptRanges", laid_unicode_utf8_acceptRanges), ("unicode/utf8.first", laid_unicode_utf8_first)], narrowed := true }
def TextstrSidesUptoSaid : Prop := textstrSidesUptoRow.holds Tryd.pinned (OpenSpec.upto textstrSidesSpec)

end Rows
end Go.Proofs.YtkmcegicngjhbaaDoor
