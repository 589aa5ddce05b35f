import Derived.Test.YtkmcegicngjhbaaDoorN1
import Derived.Test.YtkmcegicngjhbaaDoorGo
set_option linter.all false
namespace Go.Gv.R
open Go Go.Gv Go.Gv.D Go.Lib

theorem strs_get {L : List (List Nat)} {i : Nat} (h : i < L.length) : idx (strs L) (i : Int) = some (strOf (enc L[i])) := by
  rw [idx_nat (by unfold strs; rw [List.length_map]; exact h)]
  unfold strs
  rw [List.getElem_map]
end Go.Gv.R
namespace Go.Gv.R
open Go Go.Gv Go.Gv.D Go.Lib

/-! the reference's dividing -/
/-! repeating -/
end Go.Gv.R
namespace Go.Gv.R
open Go Go.Gv Go.Gv.D Go.Lib

end Go.Gv.R

