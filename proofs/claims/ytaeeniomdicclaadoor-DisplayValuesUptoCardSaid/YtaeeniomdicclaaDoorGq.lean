import Derived.Test.YtaeeniomdicclaaDoorGk
import Derived.Lib.AtoiAll
import Derived.Lib.SlTrimSet
import Derived.Lib.ItoaNum
import Derived.Lib.LaidTab
import Derived.Lib.Case
import Derived.Lib.ValidU
namespace Go.Gv.D
open Go Go.Gv
noncomputable def zzn (_:Nat) (l:List Int):Option (List Int):=if l.length<=9223372036854775807 then some l.reverse else none
noncomputable def utf8_ValidString (_:Nat) (s:ByteArray):Option Bool:=if s.size<=9223372036854775807 then some (Lib.validD (bytesOf s)) else none
end Go.Gv.D
set_option linter.all false
namespace Go.Gv
end Go.Gv
