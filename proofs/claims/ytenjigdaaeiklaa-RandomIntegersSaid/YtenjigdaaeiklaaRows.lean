/-
  No cell of these rows narrows 'for every input' (looked for: loops, veiled, ifaces, maps, wideKeys, modest, calm, conditions, laid).
  DERIVED. THE GIVEN ROWS OF THIS SEAT. 5 by the template 'for every input the law returns true; each argument reads behind the call as it read before'; 0 by the template 'total and deterministic' (their statements: YtenjigdaaeiklaaTotals.lean).
  GIVEN WITH THE SEED: the statements are not yours to turn. If you find one false, say at which input.
  Laid BY PROGRAM, IN A SANDBOX (cutbox-rows.mjs): the forced cells as the released guide's own fill.sh prints them over the translation 0d938c7b8948b245… (all of the seat's roots in one cut). By AI agents, Wed Nov 11 2026. No macro, syntax, notation, axiom, sorry.
-/
import Derived.Test.YtenjigdaaeiklaaChecked
import GoSem.Claim
import GoSem.ClaimJoined
import GoSem.ClaimMapViews
import Derived.JoinedTies
import Derived.KernelRfl
namespace Go.Proofs.Ytenjigdaaeiklaa
/- THE CELL 'sum', in the pinned program and in every row, IS THE sha256 OF THE DUMP (.gsa) THAT YtenjigdaaeiklaaProg.lean LOADS. Nothing in Lean hashes anything: it is a label: what it is worth is what the hold of that sum in a sandbox is worth. -/
noncomputable def Try.pinned : Pinned := { name := "ytenjigdaaeiklaa", sum := "0d938c7b8948b245fab3f82f4c3788b8e45c99e6dca9bcd9d632cc95ee866470", checked := Try.checked }
namespace Rows
def none {H : Type} : Left H := { results := [], args := [] }

/-- 'brindlewoodlaw4.RandomDraws': WHATEVER THE INPUT: true; the input reads as it did. -/
def randomDrawsSpec : ChangeSpec := { name := "randomDraws", fn := fun _ => fun
  | [d1, d2, d3, d4] => { results := [.lit (.bool true)], args := [d1, d2, d3, d4] }
  | _ => none }
def randomDrawsRow : OpenClaim := { program := "ytenjigdaaeiklaa", sum := "0d938c7b8948b245fab3f82f4c3788b8e45c99e6dca9bcd9d632cc95ee866470", func := "brindlewood/brindlewoodlaw4.RandomDraws", spec := "randomDraws", apart := false }
def RandomDrawsSaid : Prop := randomDrawsRow.holds Try.pinned (OpenSpec.ofChange randomDrawsSpec)

/-- ITS FALSE NEIGHBOUR: 'it returns false'. Refute it at one input. -/
def randomDrawsWrong : ChangeSpec := { name := "randomDraws", fn := fun _ => fun
  | [d1, d2, d3, d4] => { results := [.lit (.bool false)], args := [d1, d2, d3, d4] }
  | _ => none }
def RandomDrawsWrongFalsely : Prop := randomDrawsRow.holds Try.pinned (OpenSpec.ofChange randomDrawsWrong)

/-- 'brindlewoodlaw4.RandomIntegers': WHATEVER THE INPUT: true; the input reads as it did. -/
def randomIntegersSpec : ChangeSpec := { name := "randomIntegers", fn := fun _ => fun
  | [d1, d2, d3, d4] => { results := [.lit (.bool true)], args := [d1, d2, d3, d4] }
  | _ => none }
def randomIntegersRow : OpenClaim := { program := "ytenjigdaaeiklaa", sum := "0d938c7b8948b245fab3f82f4c3788b8e45c99e6dca9bcd9d632cc95ee866470", func := "brindlewood/brindlewoodlaw4.RandomIntegers", spec := "randomIntegers", apart := false }
def RandomIntegersSaid : Prop := randomIntegersRow.holds Try.pinned (OpenSpec.ofChange randomIntegersSpec)

/-- ITS FALSE NEIGHBOUR: 'it returns false'. Refute it at one input. -/
def randomIntegersWrong : ChangeSpec := { name := "randomIntegers", fn := fun _ => fun
  | [d1, d2, d3, d4] => { results := [.lit (.bool false)], args := [d1, d2, d3, d4] }
  | _ => none }
def RandomIntegersWrongFalsely : Prop := randomIntegersRow.holds Try.pinned (OpenSpec.ofChange randomIntegersWrong)

/-- 'brindlewoodlaw4.RandomPrefixes': WHATEVER THE INPUT: true; the input reads as it did. -/
def randomPrefixesSpec : ChangeSpec := { name := "randomPrefixes", fn := fun _ => fun
  | [d1, d2, d3] => { results := [.lit (.bool true)], args := [d1, d2, d3] }
  | _ => none }
def randomPrefixesRow : OpenClaim := { program := "ytenjigdaaeiklaa", sum := "0d938c7b8948b245fab3f82f4c3788b8e45c99e6dca9bcd9d632cc95ee866470", func := "brindlewood/brindlewoodlaw4.RandomPrefixes", spec := "randomPrefixes", apart := false }
def RandomPrefixesSaid : Prop := randomPrefixesRow.holds Try.pinned (OpenSpec.ofChange randomPrefixesSpec)

/-- ITS FALSE NEIGHBOUR: 'it returns false'. Refute it at one input. -/
def randomPrefixesWrong : ChangeSpec := { name := "randomPrefixes", fn := fun _ => fun
  | [d1, d2, d3] => { results := [.lit (.bool false)], args := [d1, d2, d3] }
  | _ => none }
def RandomPrefixesWrongFalsely : Prop := randomPrefixesRow.holds Try.pinned (OpenSpec.ofChange randomPrefixesWrong)

/-- 'brindlewoodlaw4.RandomSamples': WHATEVER THE INPUT: true; the input reads as it did. -/
def randomSamplesSpec : ChangeSpec := { name := "randomSamples", fn := fun _ => fun
  | [d1, d2, d3, d4] => { results := [.lit (.bool true)], args := [d1, d2, d3, d4] }
  | _ => none }
def randomSamplesRow : OpenClaim := { program := "ytenjigdaaeiklaa", sum := "0d938c7b8948b245fab3f82f4c3788b8e45c99e6dca9bcd9d632cc95ee866470", func := "brindlewood/brindlewoodlaw4.RandomSamples", spec := "randomSamples", apart := false }
def RandomSamplesSaid : Prop := randomSamplesRow.holds Try.pinned (OpenSpec.ofChange randomSamplesSpec)

/-- ITS FALSE NEIGHBOUR: 'it returns false'. Refute it at one input. -/
def randomSamplesWrong : ChangeSpec := { name := "randomSamples", fn := fun _ => fun
  | [d1, d2, d3, d4] => { results := [.lit (.bool false)], args := [d1, d2, d3, d4] }
  | _ => none }
def RandomSamplesWrongFalsely : Prop := randomSamplesRow.holds Try.pinned (OpenSpec.ofChange randomSamplesWrong)

/-- 'brindlewoodlaw4.RandomBounded': WHATEVER THE INPUT: true; the input reads as it did. -/
def randomBoundedSpec : ChangeSpec := { name := "randomBounded", fn := fun _ => fun
  | [d1, d2, d3, d4, d5] => { results := [.lit (.bool true)], args := [d1, d2, d3, d4, d5] }
  | _ => none }
def randomBoundedRow : OpenClaim := { program := "ytenjigdaaeiklaa", sum := "0d938c7b8948b245fab3f82f4c3788b8e45c99e6dca9bcd9d632cc95ee866470", func := "brindlewood/brindlewoodlaw4.RandomBounded", spec := "randomBounded", apart := false }
def RandomBoundedSaid : Prop := randomBoundedRow.holds Try.pinned (OpenSpec.ofChange randomBoundedSpec)

/-- ITS FALSE NEIGHBOUR: 'it returns false'. Refute it at one input. -/
def randomBoundedWrong : ChangeSpec := { name := "randomBounded", fn := fun _ => fun
  | [d1, d2, d3, d4, d5] => { results := [.lit (.bool false)], args := [d1, d2, d3, d4, d5] }
  | _ => none }
def RandomBoundedWrongFalsely : Prop := randomBoundedRow.holds Try.pinned (OpenSpec.ofChange randomBoundedWrong)

/- THE SECOND FORM. 'bulk': how many values and letters a reading holds, each counted each time it is reached (what is shared counts as often as it is met; a slice's spare places count too). A statement '..UptoSaid' is the law's where the arguments, and the package variables that the reading takes, are together of bulk at most 1048576: NARROWER than '..Said'. Prove '..Said' where nothing that the law and all that it calls make is longer than what came in: it says more and counts as full. Else prove '..UptoSaid'. A law counts once. -/
mutual
def uptoBulk {H : Type} : DataW H → Nat
  | .lit (.string bytes) => bytes.length + 1
  | .lit _ => 1
  | .nil => 1
  | .ptr d => uptoBulk d + 1
  | .slice elems spare => uptoBulkAll elems + uptoBulkAll spare + 1
  | .agg parts => uptoBulkAll parts + 1
  | .iface _ d => uptoBulk d + 1
  | .map entries => uptoBulkEntries entries + 1
  | .held _ => 1
def uptoBulkAll {H : Type} : List (DataW H) → Nat
  | [] => 0
  | d :: r => uptoBulk d + uptoBulkAll r
def uptoBulkEntries {H : Type} : List (Lit × DataW H) → Nat
  | [] => 0
  | x :: r => uptoBulkEntry x + uptoBulkEntries r
def uptoBulkEntry {H : Type} : Lit × DataW H → Nat
  | (.string bytes, d) => bytes.length + uptoBulk d + 1
  | (_, d) => uptoBulk d + 1
 end
def uptoSmall : (H : Type) → List (DataW H) → Bool := fun _ ds => decide (uptoBulkAll ds ≤ 1048576)
def OpenSpec.upto (s : _root_.Go.ChangeSpec) : _root_.Go.OpenSpec := { _root_.Go.OpenSpec.ofChange s with cond := some uptoSmall }

/-- 'brindlewoodlaw4.RandomDraws', WHERE WHAT IT READS IS OF BULK AT MOST 1048576: true; the input reads as it did. -/
def randomDrawsUptoRow : OpenClaim := { program := "ytenjigdaaeiklaa", sum := "0d938c7b8948b245fab3f82f4c3788b8e45c99e6dca9bcd9d632cc95ee866470", func := "brindlewood/brindlewoodlaw4.RandomDraws", spec := "randomDraws", apart := false, narrowed := true }
def RandomDrawsUptoSaid : Prop := randomDrawsUptoRow.holds Try.pinned (OpenSpec.upto randomDrawsSpec)

/-- 'brindlewoodlaw4.RandomIntegers', WHERE WHAT IT READS IS OF BULK AT MOST 1048576: true; the input reads as it did. -/
def randomIntegersUptoRow : OpenClaim := { program := "ytenjigdaaeiklaa", sum := "0d938c7b8948b245fab3f82f4c3788b8e45c99e6dca9bcd9d632cc95ee866470", func := "brindlewood/brindlewoodlaw4.RandomIntegers", spec := "randomIntegers", apart := false, narrowed := true }
def RandomIntegersUptoSaid : Prop := randomIntegersUptoRow.holds Try.pinned (OpenSpec.upto randomIntegersSpec)

/-- 'brindlewoodlaw4.RandomPrefixes', WHERE WHAT IT READS IS OF BULK AT MOST 1048576: true; the input reads as it did. -/
def randomPrefixesUptoRow : OpenClaim := { program := "ytenjigdaaeiklaa", sum := "0d938c7b8948b245fab3f82f4c3788b8e45c99e6dca9bcd9d632cc95ee866470", func := "brindlewood/brindlewoodlaw4.RandomPrefixes", spec := "randomPrefixes", apart := false, narrowed := true }
def RandomPrefixesUptoSaid : Prop := randomPrefixesUptoRow.holds Try.pinned (OpenSpec.upto randomPrefixesSpec)

/-- 'brindlewoodlaw4.RandomSamples', WHERE WHAT IT READS IS OF BULK AT MOST 1048576: true; the input reads as it did. -/
def randomSamplesUptoRow : OpenClaim := { program := "ytenjigdaaeiklaa", sum := "0d938c7b8948b245fab3f82f4c3788b8e45c99e6dca9bcd9d632cc95ee866470", func := "brindlewood/brindlewoodlaw4.RandomSamples", spec := "randomSamples", apart := false, narrowed := true }
def RandomSamplesUptoSaid : Prop := randomSamplesUptoRow.holds Try.pinned (OpenSpec.upto randomSamplesSpec)

/-- 'brindlewoodlaw4.RandomBounded', WHERE WHAT IT READS IS OF BULK AT MOST 1048576: true; the input reads as it did. -/
def randomBoundedUptoRow : OpenClaim := { program := "ytenjigdaaeiklaa", sum := "0d938c7b8948b245fab3f82f4c3788b8e45c99e6dca9bcd9d632cc95ee866470", func := "brindlewood/brindlewoodlaw4.RandomBounded", spec := "randomBounded", apart := false, narrowed := true }
def RandomBoundedUptoSaid : Prop := randomBoundedUptoRow.holds Try.pinned (OpenSpec.upto randomBoundedSpec)

end Rows
end Go.Proofs.Ytenjigdaaeiklaa
