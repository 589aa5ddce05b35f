import Derived.Test.YtlclmpegnkomcaaDoorGh
import Derived.Lib.Join
import Derived.Lib.Replace
namespace Go.Gv.D
open Go Go.Gv
noncomputable def bytes_Join (_ : Nat) (s : List (List UInt8)) (sep : List UInt8) : Option (List UInt8) :=
  if s.length ≤ 140737488355328 ∧ Lib.lens s + sep.length * (s.length - 1) ≤ 140737488355328 then some (Lib.join s sep) else none
noncomputable def strings_Count (_ : Nat) (s sep : ByteArray) : Option Int :=
  if s.size < 4294967281 ∧ 1 ≤ sep.size then some (Lib.countB s sep : Nat) else none
noncomputable def strings_Replace (_ : Nat) (s old new : ByteArray) (n : Int) : Option ByteArray :=
  if s.size < 4294967281 ∧ 1 ≤ old.size ∧ s.size + Lib.countB s old * new.size ≤ 140737488355328 then some (strOf (Lib.replace (bytesOf s) (bytesOf old) (bytesOf new) n)) else none
end Go.Gv.D
