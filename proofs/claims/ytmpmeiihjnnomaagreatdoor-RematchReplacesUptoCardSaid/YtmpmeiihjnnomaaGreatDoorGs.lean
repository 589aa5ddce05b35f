import Derived.Test.YtmpmeiihjnnomaaGreatDoorGj
import Derived.Lib.Join
import Derived.Lib.Replace
import Derived.Lib.Repeat
import Derived.Lib.FieldsP
import Derived.Lib.Split
import Derived.Lib.LastIndexLaws
set_option linter.all false
namespace Go.Gv
end Go.Gv
namespace Go.Gv.D
open Go Go.Gv
noncomputable def strings_Join (_:Nat) (l:List ByteArray) (sep:ByteArray):Option ByteArray:=
 if l.length<=140737488355328∧(Lib.join (l.map bytesOf) (bytesOf sep)).length<=140737488355328 then some (strOf (Lib.join (l.map bytesOf) (bytesOf sep))) else none
end Go.Gv.D
