import Derived.Test.YtdpmkphjcjacfaaGreatDoorGj
import Derived.Lib.Join
import Derived.Lib.Replace
import Derived.Lib.Repeat
import Derived.Lib.FieldsP
import Derived.Lib.Split
import Derived.Lib.LastIndexLaws
set_option linter.all false
namespace Go.Gv
end Go.Gv
namespace Go.Gv.D
open Go Go.Gv
end Go.Gv.D
