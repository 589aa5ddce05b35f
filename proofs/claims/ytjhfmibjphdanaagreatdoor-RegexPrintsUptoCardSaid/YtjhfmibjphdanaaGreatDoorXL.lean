import Derived.Test.YtjhfmibjphdanaaGreatDoorXH
set_option linter.all false
namespace Go.Gv.X
open Go Go.Gv Go.Gv.D Go.Gv.R Go.Gv.P Go.Lib
set_option maxRecDepth 100000
/-! Own work: the second reader's classes and escapes (2). -/
end Go.Gv.X
namespace Go.Gv.X
open Go Go.Gv Go.Gv.D Go.Gv.R Go.Gv.P Go.Lib
set_option maxRecDepth 100000
/-! Own work: the second reader's classes and escapes (3). -/
theorem Sml.app {a b:List (Int × Int)} (h:Sml a) (h':Sml b):Sml (a++b):=fun y hy=>(List.mem_append.1 hy).elim (h y) (h' y)
end Go.Gv.X
namespace Go.Gv.X
open Go Go.Gv Go.Gv.D Go.Gv.R Go.Gv.P Go.Lib
set_option maxRecDepth 100000
/-! Own work: the second reader's bounds. -/
end Go.Gv.X
