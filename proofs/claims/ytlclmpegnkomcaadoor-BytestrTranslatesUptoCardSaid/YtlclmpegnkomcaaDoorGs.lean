import Derived.Test.YtlclmpegnkomcaaDoorGh
import Derived.Lib.Join
namespace Go.Gv.D
open Go Go.Gv
noncomputable def bytes_Join (_ : Nat) (s : List (List UInt8)) (sep : List UInt8) : Option (List UInt8) :=
  if s.length ≤ 140737488355328 ∧ Lib.lens s + sep.length * (s.length - 1) ≤ 140737488355328 then some (Lib.join s sep) else none
end Go.Gv.D
