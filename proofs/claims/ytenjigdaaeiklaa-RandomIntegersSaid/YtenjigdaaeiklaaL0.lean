import Derived.Test.YtenjigdaaeiklaaL1
set_option linter.all false
namespace Go.Gv.R
open Go Go.Gv Go.Gv.D

theorem whole0 : Tot (fun n => law4_whole n 0) (· = (2, (false, []), (false, []), strOf [], 0)) := Tot.of_all 5 (fun k => by kernel_rfl) rfl

set_option maxRecDepth 100000 in
theorem draws_ok : Tot (fun n => law4_draws n) (· = true) := Tot.of_all 20 (fun k => by kernel_rfl) rfl

end Go.Gv.R
