import Derived.Test.YtlclmpegnkomcaaDoorL1
import Derived.Lib.ValidLaws
import Derived.Lib.ValidAsc
import Derived.Lib.DecodeNEq
import Derived.Lib.MapLaws
set_option linter.all false
namespace Go.Gv.R
open Go Go.Gv Go.Gv.D Go.Lib

/-! ### words of eight bytes -/
/-! ### what is valid -/
end Go.Gv.R
namespace Go.Gv.R
open Go Go.Gv Go.Gv.D Go.Lib

end Go.Gv.R
namespace Go.Gv.R
open Go Go.Gv Go.Gv.D Go.Lib

/-! ### scalars, and texts of them -/
def encR (r : Nat) : List UInt8 := encodeRune (r : Int)
end Go.Gv.R
namespace Go.Gv.R
open Go Go.Gv Go.Gv.D Go.Lib

/-! ### the reference's unit -/
def bad (x : Nat × Nat) : Prop := x.1 = 65533 ∧ x.2 = 1
instance (x : Nat × Nat) : Decidable (bad x) := inferInstanceAs (Decidable (_ ∧ _))
end Go.Gv.R
namespace Go.Gv.R
open Go Go.Gv Go.Gv.D Go.Lib

/-! ### a text's runes, as the range statement takes them -/
/-! ### codings -/
end Go.Gv.R
namespace Go.Gv.R
open Go Go.Gv Go.Gv.D Go.Lib

theorem iw {x : Int} {n : Nat} (h : x = (n : Int)) (h' : n < 4611686018427387904) : IntKind.i64.wrap x = (n : Int) := by rw [h, i64_small (by omega) (by omega)]
end Go.Gv.R
namespace Go.Gv.R
open Go Go.Gv Go.Gv.D Go.Lib

/-! ### units of a coding -/
/-! ### walking over the units -/
def put (mode : Int) (x : Int) : List UInt8 := if 0 ≤ x then encR x.toNat else if mode = 1 then encR 65533 else []
end Go.Gv.R
namespace Go.Gv.R
open Go Go.Gv Go.Gv.D Go.Lib

/-! ### the points that are put into the text -/
end Go.Gv.R

