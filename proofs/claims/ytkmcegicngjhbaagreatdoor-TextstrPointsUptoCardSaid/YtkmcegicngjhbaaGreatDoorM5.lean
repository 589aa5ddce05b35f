import Derived.Test.YtkmcegicngjhbaaGreatDoorM2
import Derived.Test.YtkmcegicngjhbaaGreatDoorM1
set_option linter.all false
namespace Go.Gv.R
open Go Go.Gv Go.Gv.D Go.Lib

end Go.Gv.R
namespace Go.Gv.R
open Go Go.Gv Go.Gv.D Go.Lib

end Go.Gv.R

