import Derived.Test.YtdpmkphjcjacfaaDoorL1
set_option linter.all false
namespace Go.Gv.P
open Go Go.Gv Go.Gv.D
set_option maxRecDepth 100000
theorem packs_tot : Tot (fun n => law4_packs n) (· = true) := Tot.of_all 60 (fun k => by kernel_rfl) rfl
end Go.Gv.P
namespace Go.Gv.P
open Go Go.Gv Go.Gv.D Go.Gv.R
set_option maxRecDepth 100000

/-! ### numerals, codes -/
end Go.Gv.P
namespace Go.Gv.P
open Go Go.Gv Go.Gv.D Go.Gv.R
set_option maxRecDepth 100000

/-! ### formats read -/
end Go.Gv.P
namespace Go.Gv.P
open Go Go.Gv Go.Gv.D Go.Gv.R
set_option maxRecDepth 100000

end Go.Gv.P
namespace Go.Gv.P
open Go Go.Gv Go.Gv.D Go.Gv.R
set_option maxRecDepth 100000

end Go.Gv.P
namespace Go.Gv.P
open Go Go.Gv Go.Gv.D Go.Gv.R
set_option maxRecDepth 100000

/-! ### checks and sizes -/
end Go.Gv.P
namespace Go.Gv.P
open Go Go.Gv Go.Gv.D Go.Gv.R
set_option maxRecDepth 100000

end Go.Gv.P

