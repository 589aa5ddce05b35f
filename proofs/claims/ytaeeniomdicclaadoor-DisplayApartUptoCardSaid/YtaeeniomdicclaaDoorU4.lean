import Derived.Test.YtaeeniomdicclaaDoorU1
set_option linter.all false
namespace Go.Gv.R
open Go Go.Gv Go.Gv.D Go.Lib

/-! ### the reference's unit -/
def bad (x : Nat × Nat) : Prop := x.1 = 65533 ∧ x.2 = 1
instance (x : Nat × Nat) : Decidable (bad x) := inferInstanceAs (Decidable (_ ∧ _))
end Go.Gv.R
namespace Go.Gv.R
open Go Go.Gv Go.Gv.D Go.Lib

/-! ### a text's runes, as the range statement takes them -/
/-! ### codings -/
end Go.Gv.R
namespace Go.Gv.R
open Go Go.Gv Go.Gv.D Go.Lib

theorem iw {x : Int} {n : Nat} (h : x = (n : Int)) (h' : n < 4611686018427387904) : IntKind.i64.wrap x = (n : Int) := by rw [h, i64_small (by omega) (by omega)]
end Go.Gv.R

