import Derived.Test.YtaeeniomdicclaaDoorL1
set_option linter.all false
namespace Go.Gv.R
open Go Go.Gv Go.Gv.D

/-! ### digits are read -/
def hv (x : UInt8) : Int := nIdxB [48, 49, 50, 51, 52, 53, 54, 55, 56, 57, 97, 98, 99, 100, 101, 102] (x.toNat : Int)
def hn (x : UInt8) : Nat := (hv x).toNat
def unhex : List UInt8 → List UInt8
  | x :: y :: l => UInt8.ofNat (16 * hn x + hn y) :: unhex l
  | _ => []
/-! ### the law's own way -/
end Go.Gv.R
namespace Go.Gv.R
open Go Go.Gv Go.Gv.D

/-! ### letters are read -/
end Go.Gv.R
namespace Go.Gv.R
open Go Go.Gv Go.Gv.D

end Go.Gv.R
namespace Go.Gv.R
open Go Go.Gv Go.Gv.D

end Go.Gv.R

