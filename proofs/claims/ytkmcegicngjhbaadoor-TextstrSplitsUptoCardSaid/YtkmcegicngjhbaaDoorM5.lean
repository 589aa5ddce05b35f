import Derived.Test.YtkmcegicngjhbaaDoorM2
import Derived.Test.YtkmcegicngjhbaaDoorM1
set_option linter.all false
namespace Go.Gv.R
open Go Go.Gv Go.Gv.D Go.Lib

end Go.Gv.R
namespace Go.Gv.R
open Go Go.Gv Go.Gv.D Go.Lib

theorem check_ok {l : List ByteArray} (hl : l.length ≤ 1000) (h : ∀ s ∈ l, okS s = true) : faultL l 0 = (0, 0) := by
  have := faultL_drop l 0 l.length (fun j hj _ => h _ (List.getElem_mem hj)) (Nat.le_refl _)
  rw [List.drop_length] at this
  exact this
end Go.Gv.R

