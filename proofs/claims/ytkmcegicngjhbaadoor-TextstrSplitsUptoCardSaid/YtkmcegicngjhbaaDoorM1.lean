import Derived.Test.YtkmcegicngjhbaaDoorU1
set_option linter.all false
namespace Go.Gv.R
open Go Go.Gv Go.Gv.D
set_option maxRecDepth 100000
theorem letters_tot : Tot (fun n => law4_letters n) (· = true) := Tot.of_all 40 (fun k => by kernel_rfl) rfl
end Go.Gv.R

