import Derived.Test.YtaeeniomdicclaaDoorGk
import Derived.Lib.AtoiAll
import Derived.Lib.SlTrimSet
import Derived.Lib.ItoaNum
import Derived.Lib.LaidTab
import Derived.Lib.Case
/- Own work: plain functions for some of package strconv's and strings', within the bounds of their contracts. -/
namespace Go.Gv.D
open Go Go.Gv
end Go.Gv.D
set_option linter.all false
namespace Go.Gv
end Go.Gv
