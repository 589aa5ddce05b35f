import Derived.Test.YtlclmpegnkomcaaDoorGj
import Derived.Lib.Join
import Derived.Lib.Replace
import Derived.Lib.Repeat
import Derived.Lib.FieldsP
import Derived.Lib.Split
import Derived.Lib.LastIndexLaws
set_option linter.all false
namespace Go.Gv
end Go.Gv
namespace Go.Gv.D
open Go Go.Gv
noncomputable def bytes_Join (_ : Nat) (s : List (List UInt8)) (sep : List UInt8) : Option (List UInt8) :=
  if s.length ≤ 140737488355328 ∧ Lib.lens s + sep.length * (s.length - 1) ≤ 140737488355328 then some (Lib.join s sep) else none
noncomputable def bytes_Index (_ : Nat) (s sep : List UInt8) : Option Int :=
  if s.length < 4294967281 ∧ sep.length ≤ 9223372036854775807 then some (Lib.index s sep) else none
noncomputable def bytes_SplitN (_ : Nat) (s sep : List UInt8) (n : Int) : Option (List (List UInt8)) :=
  if s.length < 4294967281 ∧ 1 ≤ sep.length ∧ sep.length ≤ 9223372036854775807 ∧ 1 ≤ n ∧ n ≤ 9223372036854775807 then some (Lib.splitK sep 0 (min n.toNat (s.length + 1) - 1) s) else none
end Go.Gv.D
