/-
  Own rules: append of a string's bytes, append of zeros (make of a length, handed to append). No condition of its own.
-/
import Derived.Lib.AppendStr
import Derived.WideLaws
import Derived.Test.YtlclmpegnkomcaaDoorGh
set_option linter.all false
namespace Go.Gv
open Go.RowKit

def zeros (l : Int) : Option (List UInt8) := if 0 ≤ l ∧ l ≤ 4294967296 then some (List.replicate l.toNat 0) else none

section
variable {P : Program} {R : RR} {n : Nat} {k : List It} {σ σ' : List (Nat × Value)} {w : World} {all : Array Oper} {C : World → Prop} {o : Oper} {m : Mk} {rest : List (Oper × Mk)}

end
end Go.Gv
