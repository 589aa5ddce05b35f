import Derived.Test.YtaeeniomdicclaaDoorGj
import Derived.Lib.Join
import Derived.Lib.Replace
import Derived.Lib.Repeat
import Derived.Lib.FieldsP
import Derived.Lib.Split
import Derived.Lib.LastIndexLaws
set_option linter.all false
namespace Go.Gv
end Go.Gv
namespace Go.Gv.D
open Go Go.Gv
noncomputable def strings_Index (_:Nat) (s sep:ByteArray):Option Int:=
 if s.size<4294967281 then some (Lib.index (bytesOf s) (bytesOf sep)) else none
end Go.Gv.D
