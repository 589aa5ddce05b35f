import Derived.Test.YtkmcegicngjhbaaDoorGj
import Derived.Lib.Join
import Derived.Lib.Replace
import Derived.Lib.Repeat
import Derived.Lib.FieldsP
import Derived.Lib.Split
import Derived.Lib.LastIndexLaws
set_option linter.all false
namespace Go.Gv
def blankN (x : Nat) : Bool := x == 32 || (x == 9 || x == 10)
end Go.Gv
namespace Go.Gv.D
open Go Go.Gv
noncomputable def strings_Count (_ : Nat) (s sep : ByteArray) : Option Int :=
  if s.size < 4294967281 ∧ 1 ≤ sep.size then some (Lib.countB s sep : Nat) else none
noncomputable def strings_Replace (_ : Nat) (s old new : ByteArray) (n : Int) : Option ByteArray :=
  if s.size < 4294967281 ∧ 1 ≤ old.size ∧ s.size + Lib.countB s old * new.size ≤ 140737488355328 then some (strOf (Lib.replace (bytesOf s) (bytesOf old) (bytesOf new) n)) else none
noncomputable def strings_Index (_ : Nat) (s sep : ByteArray) : Option Int :=
  if s.size < 4294967281 then some (Lib.index (bytesOf s) (bytesOf sep)) else none
noncomputable def strings_LastIndex (_ : Nat) (s sep : ByteArray) : Option Int :=
  if s.size < 4611686018427387904 then some (Lib.lastIndex (bytesOf s) (bytesOf sep)) else none
noncomputable def strings_Split (_ : Nat) (s sep : ByteArray) : Option (List ByteArray) :=
  if s.size < 4294967281 ∧ 1 ≤ sep.size then some (Lib.splitB sep 0 (Lib.countB s sep) s) else none
noncomputable def strings_SplitN (_ : Nat) (s sep : ByteArray) (n : Int) : Option (List ByteArray) :=
  if s.size < 4294967281 ∧ 1 ≤ sep.size ∧ 1 ≤ n ∧ n ≤ 9223372036854775807 then some (Lib.splitB sep 0 (min n.toNat (s.size + 1) - 1) s) else none
noncomputable def strings_Repeat (_ : Nat) (s : ByteArray) (n : Int) : Option ByteArray :=
  if 0 ≤ n ∧ n ≤ 9223372036854775807 ∧ s.size * n.toNat ≤ 140737488355328 then some (strOf (Lib.repeatL (bytesOf s) n.toNat)) else none
noncomputable def strings_Join (_ : Nat) (l : List ByteArray) (sep : ByteArray) : Option ByteArray :=
  if l.length ≤ 140737488355328 ∧ (Lib.join (l.map bytesOf) (bytesOf sep)).length ≤ 140737488355328 then some (strOf (Lib.join (l.map bytesOf) (bytesOf sep))) else none
noncomputable def strings_FieldsFunc_blank (_ : Nat) (s : ByteArray) : Option (List ByteArray) :=
  if s.size ≤ 4294967296 then some (Lib.goFieldsP blankN s) else none
end Go.Gv.D
