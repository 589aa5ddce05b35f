/-
  Own helper text:the plain function of slices.SortFunc at pairs,sorted by their first parts:the authors' plain twin of Go's sort. No condition of its own.
-/
import Derived.Test.YtjhfmibjphdanaaGreatDoorGw
import Derived.Sort.Defs
import Derived.Lib.BitFns
set_option linter.all false
namespace Go.Gv
def ltFst (x y:Int × Int):Bool:=decide (x.1<y.1)
def sortR (l:List (Int × Int)):List (Int × Int):=if l=[] then [] else (Go.Sort.pdq ltFst l.toArray 0 l.toArray.size (Go.Lib.bitLen l.toArray.size) true true).toList
namespace D
noncomputable def slices_SortFunc_s_2int__2int (_:Nat) (x_0:List (Int × Int)):Option (List (Int × Int)):=if x_0.length<4611686018427387904 then some (sortR x_0) else none
end D
end Go.Gv
